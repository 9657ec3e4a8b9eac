/-
  asks: a table tells what the document's does.
-/
import Derived.Test.YtbbemipidkhmfaaProCls
import Derived.Test.YtbbemipidkhmfaaRefPl
import Derived.Test.YtbbemipidkhmfaaOrdM
import Derived.Test.YtbbemipidkhmfaaRefA
import Derived.Test.YtbbemipidkhmfaaPlanC
namespace Go.Proofs.Ytbbemipidkhmfaa
open Go.RowKit Go.Maps

theorem NF.len {rest : Int} {L : List Rng} (h : NF rest L) : L.length ≤ 2000000 := by
  have h1 := h.all
  have h2 := h1.1.le
  have h3 := List.length_filter_le (fun x => !(x.cl == rest)) (allGo rest 0 L)
  rw [h1.2] at h3
  omega
theorem runesFrom_range (s : ByteArray) : ∀ (g p : Nat) (r : Int), r ∈ runesFrom s g p → 0 ≤ r ∧ r < 1114112
  | 0, p, r, h => by simp [runesFrom] at h
  | g + 1, p, r, h => by
    rw [runesFrom] at h
    split at h
    · rcases List.mem_cons.1 h with rfl | h
      · have := dec_max s p
        omega
      · exact runesFrom_range s g _ r h
    · simp at h
theorem runesOf_range (s : ByteArray) (r : Int) (h : r ∈ runesOf s) : 0 ≤ r ∧ r < 1114112 := runesFrom_range s _ _ r h
theorem rise_lt {L : List Rng} (h : Rise L) (q i : Nat) (a : q < L.length) (hi : i < L.length) (hq : q < i) : L[q].hi < L[i].lo := by
  have e : L = L.take (q + 1) ++ L.drop (q + 1) := (List.take_append_drop _ _).symm
  rw [e] at h
  refine h.apart _ ?_ _ ?_
  · exact List.mem_iff_getElem.2 ⟨q, by rw [List.length_take]; omega, by rw [List.getElem_take]⟩
  · exact List.mem_iff_getElem.2 ⟨i - (q + 1), by rw [List.length_drop]; omega, by rw [List.getElem_drop]; congr 1; omega⟩
theorem cls_at {rest : Int} {L : List Rng} (h : NF rest L) {i : Nat} {x : Rng} (hi : i < L.length) (hx : L[i] = x) (r : Int) (h1 : x.lo ≤ r) (h2 : r ≤ x.hi) : clsOf L rest r = x.cl := by
  subst hx
  refine clsOf_first hi (fun q a hq hh => ?_) ⟨h1, h2⟩
  have := rise_lt h.rise q i a hi hq
  omega
set_option maxRecDepth 100000 in
set_option maxHeartbeats 8000000 in
theorem c_asks {n T : Nat} {rest : Int} {f : Int → Int} {U : List (List Int)} {ix : List Nat} {ob oc ub uc : Nat} {wv rv : Value} {L : List Rng} {rs : List Int} (s : ByteArray) (w : World)
    (ht : Tab w T rest f U ix ob oc ub uc) (hw : IsRef n w wv rest L) (hl : L.length ≤ 2000000) (hf : ∀ r, 0 ≤ r → r < 1114112 → f r = clsOf L rest r) (hrs : IRow .i32 w rv rs) (hrl : rs.length ≤ 1000000) (hsl : s.size ≤ 1000000) :
    Calls Try.prog 23 #[.pointer (some ⟨T, 0, none⟩), wv, rv, .string s] w fun e w' => e = .returned (.bool true) ∧ Ext w w' := by
  have hnf : NF rest L := by obtain ⟨_, _, _, _, _, _, hnf, _⟩ := hw; exact hnf
  have hv : ∃ Y, wv = .pointer (some ⟨Y, 0, none⟩) := by obtain ⟨Y, _, e, _⟩ := hw; exact ⟨Y, e⟩
  obtain ⟨Y, rfl⟩ := hv
  obtain ⟨rp, rcap, rfl⟩ : ∃ p cap, rv = .slice p rs.length cap := by obtain ⟨p, cap, e, _⟩ := hrs; exact ⟨p, cap, e⟩
  have hget : ∀ r, getOf rest f r = clsOf L rest r := fun r => by
    unfold getOf
    split
    · exact hf r (by omega) (by omega)
    · exact (hnf.out (by omega)).symm
  have HGET := Lib.hid hget
  have HF := Lib.hid hf
  have HNF := Lib.hid hnf
  clear hget hf hnf
  go_enter Try.func23, Try.ntmps23
  go_wp2_with fail
  go_loopw [9] (fun kv W => ∃ (i : Nat), kv = .int .i64 (i : Nat) ∧ i ≤ rs.length ∧ Ext w W) (fun kv _ => rs.length + 1 - (intOf kv).toNat)
  case atStart => exact ⟨0, rfl, by omega, Ext.refl _⟩
  case round =>
    obtain ⟨i, rfl, hi, hx⟩ := hrel
    by_cases hlt : i < rs.length
    · have hd : decide (i < rs.length) = true := decide_eq_true hlt
      have j1 : ((i : Nat) : Int) < (rs.length : Nat) := by omega
      obtain ⟨b1, o1, rfl, hc1⟩ := (hrs.mono hx).at (by intro e; rw [e] at hlt; simp at hlt)
      have a1 := hc1 i hlt
      obtain ⟨r, hr⟩ : ∃ r, rs[i] = r := ⟨_, rfl⟩
      rw [hr] at a1
      clear hr hc1
      have k1 : ∀ w', EOn (fun _ => True) wr w' → w'.cell? ⟨b1, o1 + i, none⟩ = _ := fun w' hx => hx.cell trivial a1
      go_wp2_with fail
      refine wp_perm (fun _ => True) [0, 1, 2, 3, 4, 6, 7, 8, 9, 10, 5, 11, 12] [true, true, true, true, true, true, true, true, true, true, false, false, true] (by kernel_rfl) (by kernel_rfl) (by simp only [List.map_cons, List.map_nil, nth]; rfl) ?_
      repeat first
        | refine wpG_move (by rfl) (by simp only [Act.eval, Array.getD_eq_getD_getElem?, List.getElem?_toArray, List.getElem?_cons_succ, List.getElem?_cons_zero, Option.getD_some]; try rfl) (by simp only [Act.put, List.setIfInBounds_toArray, List.set_cons_succ, List.set_cons_zero]; rfl) ?_
        | refine wpG_assign (by rfl) (by simp only [Act.eval, Array.getD_eq_getD_getElem?, List.getElem?_toArray, List.getElem?_cons_succ, List.getElem?_cons_zero, Option.getD_some]; try rfl) (by simp only [Act.put, List.setIfInBounds_toArray, List.set_cons_succ, List.set_cons_zero]; rfl) ?_
        | refine wpG_val (by rfl) (fun w' hx => (by go_simp; first | (go_bits; first | exact rfl | exact ⟨by omega, rfl⟩) | exact rfl | exact (if_neg (by omega)).trans rfl | exact ⟨by omega, rfl⟩)) (by simp only [Act.put, List.setIfInBounds_toArray, List.set_cons_succ, List.set_cons_zero]; rfl) ?_
        | refine wpG_no (by rfl) (by simp only [Act.put, List.setIfInBounds_toArray, List.set_cons_succ, List.set_cons_zero]; rfl) ?_
      refine wpG_do (by rfl) (fun w3 hx3 K hK => ?_)
      go_wp2_with fail
      refine (c_Get r w3 (ht.ext (Ext.trans hx hx3))).mono ?_
      rintro e w4 ⟨rfl, hx4⟩
      rw [HGET.out]
      refine hK _ _ ⟨EOn.of_ext hx4, ?_⟩
      clear hK
      have hx24 := Ext.trans (Ext.trans hx hx3) hx4
      refine wpG_do (by rfl) (fun w5 hx5 K hK => ?_)
      go_wp2_with fail
      refine (c_RGet r w5 (hw.ext (Ext.trans hx24 hx5)) hl).mono ?_
      rintro e w6 ⟨rfl, hx6⟩
      refine hK _ _ ⟨EOn.of_ext hx6, ?_⟩
      clear hK k1
      obtain ⟨c, hc⟩ : ∃ c, clsOf L rest r = c := ⟨_, rfl⟩
      rw [hc]
      clear hc
      have hcc : (c != c) = false := bne_self_eq_false c
      repeat first
        | refine wpG_move (by rfl) (by simp only [Act.eval, Array.getD_eq_getD_getElem?, List.getElem?_toArray, List.getElem?_cons_succ, List.getElem?_cons_zero, Option.getD_some]; try rfl) (by simp only [Act.put, List.setIfInBounds_toArray, List.set_cons_succ, List.set_cons_zero]; rfl) ?_
        | refine wpG_assign (by rfl) (by simp only [Act.eval, Array.getD_eq_getD_getElem?, List.getElem?_toArray, List.getElem?_cons_succ, List.getElem?_cons_zero, Option.getD_some]; try rfl) (by simp only [Act.put, List.setIfInBounds_toArray, List.set_cons_succ, List.set_cons_zero]; rfl) ?_
        | refine wpG_val (by rfl) (fun w' hx => (by go_simp; first | (go_bits; first | exact rfl | exact ⟨by omega, rfl⟩) | exact rfl | exact (if_neg (by omega)).trans rfl | exact ⟨by omega, rfl⟩)) (by simp only [Act.put, List.setIfInBounds_toArray, List.set_cons_succ, List.set_cons_zero]; rfl) ?_
        | refine wpG_no (by rfl) (by simp only [Act.put, List.setIfInBounds_toArray, List.set_cons_succ, List.set_cons_zero]; rfl) ?_
      refine wpG_end (fun w7 hx7 => wpList_nil (gQ_normal ?_))
      go_wp2_with fail
      exact ⟨⟨i + 1, by simp, by omega, Ext.trans (Ext.trans (Ext.trans hx24 hx5) hx6) hx7⟩, by simp [intOf]; omega⟩
    · have hd : decide (i < rs.length) = false := decide_eq_false hlt
      go_wp2_with fail
      go_loopw [10] (fun kv W => ∃ (i : Nat), kv = .int .i64 (i : Nat) ∧ i ≤ L.length ∧ Ext w W) (fun kv _ => L.length + 1 - (intOf kv).toNat)
      case atStart => exact ⟨0, rfl, by omega, hx⟩
      case round =>
        clear hx
        obtain ⟨i, rfl, hi, hx⟩ := hrel
        obtain ⟨Y', lv, e, hY, -, hrow, -, -⟩ := hw.ext hx
        cases e
        have q0 := cell_blk hY 0
        have q1 := cell_blk hY 1
        simp only [List.getElem?_toArray, List.getElem?_cons_succ, List.getElem?_cons_zero] at q0 q1
        have hrg := RgRow.of_own hrow
        obtain ⟨p, cap, rfl⟩ := own_slice hrow
        clear hrow
        have k0 : ∀ w', EOn (fun _ => True) wr w' → w'.cell? ⟨Y, 0, none⟩ = _ := fun w' hx => hx.cell trivial q0
        have k1 : ∀ w', EOn (fun _ => True) wr w' → w'.cell? ⟨Y, 1, none⟩ = _ := fun w' hx => hx.cell trivial q1
        by_cases hlt : i < L.length
        · obtain ⟨b1, o1, rfl, hc1⟩ := hrg.at (by intro e; rw [e] at hlt; simp at hlt)
          obtain ⟨a1, a2, a3⟩ := hc1 i hlt
          have hxin := HNF.out.ok _ (List.getElem_mem hlt)
          obtain ⟨x, hxe⟩ : ∃ x, L[i] = x := ⟨_, rfl⟩
          rw [hxe] at a1 a2 a3 hxin
          have HXE := Lib.hid hxe
          have hd : decide (i < L.length) = true := decide_eq_true hlt
          have j1 : ((i : Nat) : Int) < (L.length : Nat) := by omega
          clear hxe hc1
          have hbk := World.alloc_heap_new wr (.cells #[.int .i32 x.lo, .int .i32 x.hi, .int .i64 x.cl] 32)
          have hxw2 := hx.alloc (.cells #[.int .i32 x.lo, .int .i32 x.hi, .int .i64 x.cl] 32)
          go_wp2_with fail
          obtain ⟨w2, hw2⟩ : ∃ w2, wr.alloc (.cells #[.int .i32 x.lo, .int .i32 x.hi, .int .i64 x.cl] 32) = w2 := ⟨_, rfl⟩
          rw [hw2] at hbk hxw2 ⊢
          clear hw2
          have n0 := cell_blk hbk 0
          have n1 := cell_blk hbk 1
          have n2 := cell_blk hbk 2
          simp only [List.getElem?_toArray, List.getElem?_cons_succ, List.getElem?_cons_zero] at n0 n1 n2
          have m0 : ∀ w', EOn (fun _ => True) w2 w' → w'.cell? ⟨wr.heap.size, 0, none⟩ = _ := fun w' hx => hx.cell trivial n0
          have m1 : ∀ w', EOn (fun _ => True) w2 w' → w'.cell? ⟨wr.heap.size, 1, none⟩ = _ := fun w' hx => hx.cell trivial n1
          have m2 : ∀ w', EOn (fun _ => True) w2 w' → w'.cell? ⟨wr.heap.size, 2, none⟩ = _ := fun w' hx => hx.cell trivial n2
          obtain ⟨⟨o1', o2', o3', -⟩, -⟩ := hxin
          have v1 := Lib.hid (cls_at HNF.out hlt HXE.out x.lo (by omega) (by omega))
          have v2 := Lib.hid (cls_at HNF.out hlt HXE.out x.hi (by omega) (by omega))
          obtain ⟨c3, hc3⟩ : ∃ c, clsOf L rest (x.lo - 1) = c := ⟨_, rfl⟩
          obtain ⟨c4, hc4⟩ : ∃ c, clsOf L rest (x.hi + 1) = c := ⟨_, rfl⟩
          have V3 := Lib.hid hc3
          have V4 := Lib.hid hc4
          have e1 : (x.cl != x.cl) = false := bne_self_eq_false _
          have e3 : (c3 != c3) = false := bne_self_eq_false _
          have e4 : (c4 != c4) = false := bne_self_eq_false _
          clear hbk n0 n1 n2 hc3 hc4 k0 k1 q0 q1 a1 a2 a3 hx hY hrg
          refine wp_perm (fun _ => True) [0, 1, 2, 4, 5, 3, 6, 7, 8, 9, 10, 12, 13, 11, 14, 15, 16, 17, 18, 19, 20, 22, 23, 24, 25, 21, 26, 27, 28, 29, 30, 31, 32, 33, 35, 36, 37, 38, 34, 39, 40, 41] [true, true, true, true, true, false, true, true, true, true, true, true, true, false, true, true, true, true, true, true, true, true, true, true, true, false, false, true, true, true, true, true, true, true, true, true, true, true, false, false, true, true] (by kernel_rfl) (by kernel_rfl) (by simp only [List.map_cons, List.map_nil, nth]; rfl) ?_
          repeat first
            | refine wpG_move (by rfl) (by simp only [Act.eval, Array.getD_eq_getD_getElem?, List.getElem?_toArray, List.getElem?_cons_succ, List.getElem?_cons_zero, Option.getD_some]; try rfl) (by simp only [Act.put, List.setIfInBounds_toArray, List.set_cons_succ, List.set_cons_zero]; rfl) ?_
            | refine wpG_assign (by rfl) (by simp only [Act.eval, Array.getD_eq_getD_getElem?, List.getElem?_toArray, List.getElem?_cons_succ, List.getElem?_cons_zero, Option.getD_some]; try rfl) (by simp only [Act.put, List.setIfInBounds_toArray, List.set_cons_succ, List.set_cons_zero]; rfl) ?_
            | refine wpG_val (by rfl) (fun w' hx => (by go_simp; first | (go_bits; first | exact rfl | exact ⟨by omega, rfl⟩) | exact rfl | exact (if_neg (by omega)).trans rfl | exact ⟨by omega, rfl⟩)) (by simp only [Act.put, List.setIfInBounds_toArray, List.set_cons_succ, List.set_cons_zero]; rfl) ?_
            | refine wpG_no (by rfl) (by simp only [Act.put, List.setIfInBounds_toArray, List.set_cons_succ, List.set_cons_zero]; rfl) ?_
          refine wpG_do (by rfl) (fun w3 hxA K hK => ?_)
          go_wp2_with fail
          refine (c_Get x.lo w3 (ht.ext (Ext.trans hxw2 hxA))).mono ?_
          rintro e w4 ⟨rfl, hxB⟩
          rw [HGET.out, v1.out]
          refine hK _ _ ⟨EOn.of_ext hxB, ?_⟩
          clear hK
          have hx4 := Ext.trans (Ext.trans hxw2 hxA) hxB
          replace m0 := fun w' hx => m0 w' (EOn.trans (EOn.of_ext (Ext.trans hxA hxB)) hx)
          replace m1 := fun w' hx => m1 w' (EOn.trans (EOn.of_ext (Ext.trans hxA hxB)) hx)
          replace m2 := fun w' hx => m2 w' (EOn.trans (EOn.of_ext (Ext.trans hxA hxB)) hx)
          clear hxA hxB
          repeat first
            | refine wpG_move (by rfl) (by simp only [Act.eval, Array.getD_eq_getD_getElem?, List.getElem?_toArray, List.getElem?_cons_succ, List.getElem?_cons_zero, Option.getD_some]; try rfl) (by simp only [Act.put, List.setIfInBounds_toArray, List.set_cons_succ, List.set_cons_zero]; rfl) ?_
            | refine wpG_assign (by rfl) (by simp only [Act.eval, Array.getD_eq_getD_getElem?, List.getElem?_toArray, List.getElem?_cons_succ, List.getElem?_cons_zero, Option.getD_some]; try rfl) (by simp only [Act.put, List.setIfInBounds_toArray, List.set_cons_succ, List.set_cons_zero]; rfl) ?_
            | refine wpG_val (by rfl) (fun w' hx => (by go_simp; first | (go_bits; first | exact rfl | exact ⟨by omega, rfl⟩) | exact rfl | exact (if_neg (by omega)).trans rfl | exact ⟨by omega, rfl⟩)) (by simp only [Act.put, List.setIfInBounds_toArray, List.set_cons_succ, List.set_cons_zero]; rfl) ?_
            | refine wpG_no (by rfl) (by simp only [Act.put, List.setIfInBounds_toArray, List.set_cons_succ, List.set_cons_zero]; rfl) ?_
          refine wpG_do (by rfl) (fun w5 hxA K hK => ?_)
          go_wp2_with fail
          refine (c_Get x.hi w5 (ht.ext (Ext.trans hx4 hxA))).mono ?_
          rintro e w6 ⟨rfl, hxB⟩
          rw [HGET.out, v2.out]
          refine hK _ _ ⟨EOn.of_ext hxB, ?_⟩
          clear hK
          have hx6 := Ext.trans (Ext.trans hx4 hxA) hxB
          replace m0 := fun w' hx => m0 w' (EOn.trans (EOn.of_ext (Ext.trans hxA hxB)) hx)
          replace m1 := fun w' hx => m1 w' (EOn.trans (EOn.of_ext (Ext.trans hxA hxB)) hx)
          replace m2 := fun w' hx => m2 w' (EOn.trans (EOn.of_ext (Ext.trans hxA hxB)) hx)
          clear hxA hxB
          repeat first
            | refine wpG_move (by rfl) (by simp only [Act.eval, Array.getD_eq_getD_getElem?, List.getElem?_toArray, List.getElem?_cons_succ, List.getElem?_cons_zero, Option.getD_some]; try rfl) (by simp only [Act.put, List.setIfInBounds_toArray, List.set_cons_succ, List.set_cons_zero]; rfl) ?_
            | refine wpG_assign (by rfl) (by simp only [Act.eval, Array.getD_eq_getD_getElem?, List.getElem?_toArray, List.getElem?_cons_succ, List.getElem?_cons_zero, Option.getD_some]; try rfl) (by simp only [Act.put, List.setIfInBounds_toArray, List.set_cons_succ, List.set_cons_zero]; rfl) ?_
            | refine wpG_val (by rfl) (fun w' hx => (by go_simp; first | (go_bits; first | exact rfl | exact ⟨by omega, rfl⟩) | exact rfl | exact (if_neg (by omega)).trans rfl | exact ⟨by omega, rfl⟩)) (by simp only [Act.put, List.setIfInBounds_toArray, List.set_cons_succ, List.set_cons_zero]; rfl) ?_
            | refine wpG_no (by rfl) (by simp only [Act.put, List.setIfInBounds_toArray, List.set_cons_succ, List.set_cons_zero]; rfl) ?_
          refine wpG_do (by rfl) (fun w7 hxA K hK => ?_)
          go_wp2_with fail
          refine (c_Get (x.lo - 1) w7 (ht.ext (Ext.trans hx6 hxA))).mono ?_
          rintro e w8 ⟨rfl, hxB⟩
          rw [HGET.out, V3.out]
          refine hK _ _ ⟨EOn.of_ext hxB, ?_⟩
          clear hK
          have hx8 := Ext.trans (Ext.trans hx6 hxA) hxB
          replace m0 := fun w' hx => m0 w' (EOn.trans (EOn.of_ext (Ext.trans hxA hxB)) hx)
          replace m1 := fun w' hx => m1 w' (EOn.trans (EOn.of_ext (Ext.trans hxA hxB)) hx)
          replace m2 := fun w' hx => m2 w' (EOn.trans (EOn.of_ext (Ext.trans hxA hxB)) hx)
          clear hxA hxB
          refine wpG_do (by rfl) (fun w9 hxA K hK => ?_)
          go_wp2_with fail
          refine (c_RGet (x.lo - 1) w9 (hw.ext (Ext.trans hx8 hxA)) hl).mono ?_
          rintro e w10 ⟨rfl, hxB⟩
          rw [V3.out]
          refine hK _ _ ⟨EOn.of_ext hxB, ?_⟩
          clear hK
          have hx10 := Ext.trans (Ext.trans hx8 hxA) hxB
          replace m0 := fun w' hx => m0 w' (EOn.trans (EOn.of_ext (Ext.trans hxA hxB)) hx)
          replace m1 := fun w' hx => m1 w' (EOn.trans (EOn.of_ext (Ext.trans hxA hxB)) hx)
          replace m2 := fun w' hx => m2 w' (EOn.trans (EOn.of_ext (Ext.trans hxA hxB)) hx)
          clear hxA hxB
          repeat first
            | refine wpG_move (by rfl) (by simp only [Act.eval, Array.getD_eq_getD_getElem?, List.getElem?_toArray, List.getElem?_cons_succ, List.getElem?_cons_zero, Option.getD_some]; try rfl) (by simp only [Act.put, List.setIfInBounds_toArray, List.set_cons_succ, List.set_cons_zero]; rfl) ?_
            | refine wpG_assign (by rfl) (by simp only [Act.eval, Array.getD_eq_getD_getElem?, List.getElem?_toArray, List.getElem?_cons_succ, List.getElem?_cons_zero, Option.getD_some]; try rfl) (by simp only [Act.put, List.setIfInBounds_toArray, List.set_cons_succ, List.set_cons_zero]; rfl) ?_
            | refine wpG_val (by rfl) (fun w' hx => (by go_simp; first | (go_bits; first | exact rfl | exact ⟨by omega, rfl⟩) | exact rfl | exact (if_neg (by omega)).trans rfl | exact ⟨by omega, rfl⟩)) (by simp only [Act.put, List.setIfInBounds_toArray, List.set_cons_succ, List.set_cons_zero]; rfl) ?_
            | refine wpG_no (by rfl) (by simp only [Act.put, List.setIfInBounds_toArray, List.set_cons_succ, List.set_cons_zero]; rfl) ?_
          refine wpG_do (by rfl) (fun w11 hxA K hK => ?_)
          go_wp2_with fail
          refine (c_Get (x.hi + 1) w11 (ht.ext (Ext.trans hx10 hxA))).mono ?_
          rintro e w12 ⟨rfl, hxB⟩
          rw [HGET.out, V4.out]
          refine hK _ _ ⟨EOn.of_ext hxB, ?_⟩
          clear hK
          have hx12 := Ext.trans (Ext.trans hx10 hxA) hxB
          replace m0 := fun w' hx => m0 w' (EOn.trans (EOn.of_ext (Ext.trans hxA hxB)) hx)
          replace m1 := fun w' hx => m1 w' (EOn.trans (EOn.of_ext (Ext.trans hxA hxB)) hx)
          replace m2 := fun w' hx => m2 w' (EOn.trans (EOn.of_ext (Ext.trans hxA hxB)) hx)
          clear hxA hxB
          refine wpG_do (by rfl) (fun w13 hxA K hK => ?_)
          go_wp2_with fail
          refine (c_RGet (x.hi + 1) w13 (hw.ext (Ext.trans hx12 hxA)) hl).mono ?_
          rintro e w14 ⟨rfl, hxB⟩
          rw [V4.out]
          refine hK _ _ ⟨EOn.of_ext hxB, ?_⟩
          clear hK
          have hx14 := Ext.trans (Ext.trans hx12 hxA) hxB
          replace m0 := fun w' hx => m0 w' (EOn.trans (EOn.of_ext (Ext.trans hxA hxB)) hx)
          replace m1 := fun w' hx => m1 w' (EOn.trans (EOn.of_ext (Ext.trans hxA hxB)) hx)
          replace m2 := fun w' hx => m2 w' (EOn.trans (EOn.of_ext (Ext.trans hxA hxB)) hx)
          clear hxA hxB
          repeat first
            | refine wpG_move (by rfl) (by simp only [Act.eval, Array.getD_eq_getD_getElem?, List.getElem?_toArray, List.getElem?_cons_succ, List.getElem?_cons_zero, Option.getD_some]; try rfl) (by simp only [Act.put, List.setIfInBounds_toArray, List.set_cons_succ, List.set_cons_zero]; rfl) ?_
            | refine wpG_assign (by rfl) (by simp only [Act.eval, Array.getD_eq_getD_getElem?, List.getElem?_toArray, List.getElem?_cons_succ, List.getElem?_cons_zero, Option.getD_some]; try rfl) (by simp only [Act.put, List.setIfInBounds_toArray, List.set_cons_succ, List.set_cons_zero]; rfl) ?_
            | refine wpG_val (by rfl) (fun w' hx => (by go_simp; first | (go_bits; first | exact rfl | exact ⟨by omega, rfl⟩) | exact rfl | exact (if_neg (by omega)).trans rfl | exact ⟨by omega, rfl⟩)) (by simp only [Act.put, List.setIfInBounds_toArray, List.set_cons_succ, List.set_cons_zero]; rfl) ?_
            | refine wpG_no (by rfl) (by simp only [Act.put, List.setIfInBounds_toArray, List.set_cons_succ, List.set_cons_zero]; rfl) ?_
          refine wpG_end (fun w15 hx15 => wpList_nil (gQ_normal ?_))
          go_wp2_with fail
          exact ⟨⟨i + 1, by simp, by omega, Ext.trans hx14 hx15⟩, by simp [intOf]; omega⟩
        · have hd : decide (i < L.length) = false := decide_eq_false hlt
          go_wp2_with fail
          clear k0 k1 q0 q1 hY hrg
          refine (c_Ranges wr (ht.ext hx)).mono ?_
          rintro e w1 ⟨rv, R, rfl, hR, hor, hx1⟩
          have hRL : R.filter (fun x => !(x.cl == rest)) = L := by
            have h1 := HNF.out.all
            rw [← h1.2]
            congr 1
            exact (hR.congr fun r a b => HF.out r a b).unique h1.1
          rw [hRL] at hor
          clear hRL hR
          have hx01 := Ext.trans hx hx1
          obtain ⟨Y', lv, e, hY, -, hrow, -, -⟩ := hw.ext hx01
          cases e
          have q0 := cell_blk hY 0
          have q1 := cell_blk hY 1
          simp only [List.getElem?_toArray, List.getElem?_cons_succ, List.getElem?_cons_zero] at q0 q1
          have hrg := RgRow.of_own hrow
          have hrg2 := RgRow.of_own hor
          have k0 : ∀ w', EOn (fun _ => True) w1 w' → w'.cell? ⟨Y, 0, none⟩ = _ := fun w' hx => hx.cell trivial q0
          have k1 : ∀ w', EOn (fun _ => True) w1 w' → w'.cell? ⟨Y, 1, none⟩ = _ := fun w' hx => hx.cell trivial q1
          go_wp2_with fail
          refine wp_perm (fun _ => True) [0, 1, 2, 3, 4, 5, 6, 7, 8, 10, 11, 12, 13, 9, 14, 15, 16, 17, 18, 20, 21, 19, 22, 23, 24, 25] [true, true, true, true, true, false, true, true, true, true, true, true, true, false, true, true, true, true, true, true, true, false, false, false, true, true] (by kernel_rfl) (by kernel_rfl) (by simp only [List.map_cons, List.map_nil, nth]; rfl) ?_
          repeat first
            | refine wpG_move (by rfl) (by simp only [Act.eval, Array.getD_eq_getD_getElem?, List.getElem?_toArray, List.getElem?_cons_succ, List.getElem?_cons_zero, Option.getD_some]; try rfl) (by simp only [Act.put, List.setIfInBounds_toArray, List.set_cons_succ, List.set_cons_zero]; rfl) ?_
            | refine wpG_assign (by rfl) (by simp only [Act.eval, Array.getD_eq_getD_getElem?, List.getElem?_toArray, List.getElem?_cons_succ, List.getElem?_cons_zero, Option.getD_some]; try rfl) (by simp only [Act.put, List.setIfInBounds_toArray, List.set_cons_succ, List.set_cons_zero]; rfl) ?_
            | refine wpG_val (by rfl) (fun w' hx => (by go_simp; first | (go_bits; first | exact rfl | exact ⟨by omega, rfl⟩) | exact rfl | exact (if_neg (by omega)).trans rfl | exact ⟨by omega, rfl⟩)) (by simp only [Act.put, List.setIfInBounds_toArray, List.set_cons_succ, List.set_cons_zero]; rfl) ?_
            | refine wpG_no (by rfl) (by simp only [Act.put, List.setIfInBounds_toArray, List.set_cons_succ, List.set_cons_zero]; rfl) ?_
          refine wpG_do (by rfl) (fun w2 hx2 K hK => ?_)
          go_wp2_with fail
          refine (c_Same _ _ L L true w2 (hrg2.mono hx2) (hrg.mono hx2) (by simp) hl).mono ?_
          rintro e w3 ⟨rfl, hx3⟩
          refine hK _ _ ⟨EOn.of_ext hx3, ?_⟩
          clear hK
          have hx13 := Ext.trans hx2 hx3
          replace k1 := fun w' hx => k1 w' (EOn.trans (EOn.of_ext hx13) hx)
          have err : (rest != rest) = false := bne_self_eq_false _
          clear k0 hx2 hx3
          repeat first
            | refine wpG_move (by rfl) (by simp only [Act.eval, Array.getD_eq_getD_getElem?, List.getElem?_toArray, List.getElem?_cons_succ, List.getElem?_cons_zero, Option.getD_some]; try rfl) (by simp only [Act.put, List.setIfInBounds_toArray, List.set_cons_succ, List.set_cons_zero]; rfl) ?_
            | refine wpG_assign (by rfl) (by simp only [Act.eval, Array.getD_eq_getD_getElem?, List.getElem?_toArray, List.getElem?_cons_succ, List.getElem?_cons_zero, Option.getD_some]; try rfl) (by simp only [Act.put, List.setIfInBounds_toArray, List.set_cons_succ, List.set_cons_zero]; rfl) ?_
            | refine wpG_val (by rfl) (fun w' hx => (by go_simp; first | (go_bits; first | exact rfl | exact ⟨by omega, rfl⟩) | exact rfl | exact (if_neg (by omega)).trans rfl | exact ⟨by omega, rfl⟩)) (by simp only [Act.put, List.setIfInBounds_toArray, List.set_cons_succ, List.set_cons_zero]; rfl) ?_
            | refine wpG_no (by rfl) (by simp only [Act.put, List.setIfInBounds_toArray, List.set_cons_succ, List.set_cons_zero]; rfl) ?_
          refine wpG_do (by rfl) (fun w4 hx4 K hK => ?_)
          go_wp2_with fail
          refine (c_Rest w4 (ht.ext (Ext.trans hx01 (Ext.trans hx13 hx4)))).mono ?_
          rintro e w4 ⟨rfl, rfl⟩
          refine hK _ _ ⟨EOn.refl _ _, ?_⟩
          clear hK k1
          have hx14 := Ext.trans hx13 hx4
          clear hx13 hx4
          repeat first
            | refine wpG_move (by rfl) (by simp only [Act.eval, Array.getD_eq_getD_getElem?, List.getElem?_toArray, List.getElem?_cons_succ, List.getElem?_cons_zero, Option.getD_some]; try rfl) (by simp only [Act.put, List.setIfInBounds_toArray, List.set_cons_succ, List.set_cons_zero]; rfl) ?_
            | refine wpG_assign (by rfl) (by simp only [Act.eval, Array.getD_eq_getD_getElem?, List.getElem?_toArray, List.getElem?_cons_succ, List.getElem?_cons_zero, Option.getD_some]; try rfl) (by simp only [Act.put, List.setIfInBounds_toArray, List.set_cons_succ, List.set_cons_zero]; rfl) ?_
            | refine wpG_val (by rfl) (fun w' hx => (by go_simp; first | (go_bits; first | exact rfl | exact ⟨by omega, rfl⟩) | exact rfl | exact (if_neg (by omega)).trans rfl | exact ⟨by omega, rfl⟩)) (by simp only [Act.put, List.setIfInBounds_toArray, List.set_cons_succ, List.set_cons_zero]; rfl) ?_
            | refine wpG_no (by rfl) (by simp only [Act.put, List.setIfInBounds_toArray, List.set_cons_succ, List.set_cons_zero]; rfl) ?_
          refine wpG_do (by rfl) (fun w5 hx5 K hK => ?_)
          go_wp2_with fail
          refine (c_Classes s (by omega) w5 (ht.ext (Ext.trans hx01 (Ext.trans hx14 hx5)))).mono ?_
          rintro e w6 ⟨c1, rfl, hc1, hx6⟩
          refine hK _ _ ⟨EOn.of_ext hx6, ?_⟩
          clear hK
          have hx16 := Ext.trans (Ext.trans hx14 hx5) hx6
          clear hx14 hx5 hx6
          refine wpG_do (by rfl) (fun w7 hx7 K hK => ?_)
          go_wp2_with fail
          refine (c_RClasses s (by omega) w7 (hw.ext (Ext.trans hx01 (Ext.trans hx16 hx7))) hl).mono ?_
          rintro e w8 ⟨c2, rfl, hc2, hx8⟩
          refine hK _ _ ⟨EOn.of_ext hx8, ?_⟩
          clear hK
          have hx68 := Ext.trans hx7 hx8
          clear hx7 hx8
          refine wpG_do (by rfl) (fun w9 hx9 K hK => ?_)
          have hcl : (runesOf s).map f = (runesOf s).map (clsOf L rest) := List.map_congr_left fun r hr => by
            obtain ⟨a, b⟩ := runesOf_range s r hr
            exact HF.out r a b
          have hlen := runesOf_length s
          go_wp2_with fail
          refine (c_Places c1 c2 ((runesOf s).map f) ((runesOf s).map (clsOf L rest)) true w9 (IRow.mono (Ext.trans hx68 hx9) (IRow.of_own (by rw [List.length_map]; exact hc1))) (IRow.mono hx9 (IRow.of_own (by rw [List.length_map]; exact hc2))) (by simp [hcl]) (by rw [List.length_map]; omega)).mono ?_
          rintro e w10 ⟨rfl, hx10⟩
          refine hK _ _ ⟨EOn.of_ext hx10, ?_⟩
          clear hK hcl hlen hc1 hc2
          repeat first
            | refine wpG_move (by rfl) (by simp only [Act.eval, Array.getD_eq_getD_getElem?, List.getElem?_toArray, List.getElem?_cons_succ, List.getElem?_cons_zero, Option.getD_some]; try rfl) (by simp only [Act.put, List.setIfInBounds_toArray, List.set_cons_succ, List.set_cons_zero]; rfl) ?_
            | refine wpG_assign (by rfl) (by simp only [Act.eval, Array.getD_eq_getD_getElem?, List.getElem?_toArray, List.getElem?_cons_succ, List.getElem?_cons_zero, Option.getD_some]; try rfl) (by simp only [Act.put, List.setIfInBounds_toArray, List.set_cons_succ, List.set_cons_zero]; rfl) ?_
            | refine wpG_val (by rfl) (fun w' hx => (by go_simp; first | (go_bits; first | exact rfl | exact ⟨by omega, rfl⟩) | exact rfl | exact (if_neg (by omega)).trans rfl | exact ⟨by omega, rfl⟩)) (by simp only [Act.put, List.setIfInBounds_toArray, List.set_cons_succ, List.set_cons_zero]; rfl) ?_
            | refine wpG_no (by rfl) (by simp only [Act.put, List.setIfInBounds_toArray, List.set_cons_succ, List.set_cons_zero]; rfl) ?_
          refine wpG_end (fun w11 hx11 => wpList_nil (gQ_normal ?_))
          have hx111 := Ext.trans hx16 (Ext.trans hx68 (Ext.trans hx9 (Ext.trans hx10 hx11)))
          clear hx16 hx68 hx9 hx10 hx11 hrg hrg2
          obtain ⟨p2, cap2, rfl⟩ := own_slice hor
          have hor11 := ownsRow_ext hor hx111
          have hxw11 := Ext.trans hx01 hx111
          have hszw := hx.sz
          clear hor hx111 hrow hx01 hx1 hY
          go_wp2_with fail
          go_loopw [13] (fun kv W => ∃ (i : Nat) (m : List Rng), kv = .int .i64 (i : Nat) ∧ i ≤ L.length ∧ m.length = L.length ∧ W.ownsRow wr.heap.size 32 3 (.slice p2 L.length cap2) L.length (rgCells m) ∧ Ext w W) (fun kv _ => L.length + 1 - (intOf kv).toNat)
          case atStart => exact ⟨0, L, rfl, by omega, rfl, hor11, hxw11⟩
          case round =>
            clear hor11 hxw11
            obtain ⟨i, m, rfl, hi, hml, hrow, hx⟩ := hrel
            by_cases hlt : i < L.length
            · have hd : decide (i < L.length) = true := decide_eq_true hlt
              have j1 : ((i : Nat) : Int) < (L.length : Nat) := by omega
              obtain ⟨g, cap', e⟩ := ownsRow_pos hrow (by omega)
              cases e
              have hsz2 := hx.sz
              obtain ⟨n1, n2, n3⟩ := own_setR hrow i (by omega) ⟨0, 0, 99⟩
              have hxw6 : Ext w (setR wr g i ⟨0, 0, 99⟩) := Below.trans hx (Below.mono (n2 (Nat.le_trans (hrow.lt g rfl).1 (Nat.le_of_lt (hrow.lt g rfl).2))) hszw)
              clear n2 n3
              go_wp2_with (refine wpList_storeR rfl (.tmp 128) (.tmp 127) rfl (i := i) ⟨0, 0, 99⟩ rfl rfl rfl hrow (by omega) ?_)
              exact ⟨⟨i + 1, m.set i ⟨0, 0, 99⟩, by simp, by omega, by simp [hml], n1, hxw6⟩, by simp [intOf]; omega⟩
            · have hd : decide (i < L.length) = false := decide_eq_false hlt
              obtain ⟨Y', lv, e, hY, -, hrowY, -, -⟩ := hw.ext hx
              cases e
              have q0 := cell_blk hY 0
              simp only [List.getElem?_toArray, List.getElem?_cons_succ, List.getElem?_cons_zero] at q0
              have hrg := RgRow.of_own hrowY
              obtain ⟨p, cap, rfl⟩ := own_slice hrowY
              have k0 : ∀ w', EOn (fun _ => True) wr w' → w'.cell? ⟨Y, 0, none⟩ = _ := fun w' hx => hx.cell trivial q0
              clear hrow hrowY
              go_wp2_with fail
              refine wp_perm (fun _ => True) [0, 2, 3, 4, 5, 1, 6, 7] [true, true, true, true, true, false, false, true] (by kernel_rfl) (by kernel_rfl) (by simp only [List.map_cons, List.map_nil, nth]; rfl) ?_
              repeat first
                | refine wpG_move (by rfl) (by simp only [Act.eval, Array.getD_eq_getD_getElem?, List.getElem?_toArray, List.getElem?_cons_succ, List.getElem?_cons_zero, Option.getD_some]; try rfl) (by simp only [Act.put, List.setIfInBounds_toArray, List.set_cons_succ, List.set_cons_zero]; rfl) ?_
                | refine wpG_assign (by rfl) (by simp only [Act.eval, Array.getD_eq_getD_getElem?, List.getElem?_toArray, List.getElem?_cons_succ, List.getElem?_cons_zero, Option.getD_some]; try rfl) (by simp only [Act.put, List.setIfInBounds_toArray, List.set_cons_succ, List.set_cons_zero]; rfl) ?_
                | refine wpG_val (by rfl) (fun w' hx => (by go_simp; first | (go_bits; first | exact rfl | exact ⟨by omega, rfl⟩) | exact rfl | exact (if_neg (by omega)).trans rfl | exact ⟨by omega, rfl⟩)) (by simp only [Act.put, List.setIfInBounds_toArray, List.set_cons_succ, List.set_cons_zero]; rfl) ?_
                | refine wpG_no (by rfl) (by simp only [Act.put, List.setIfInBounds_toArray, List.set_cons_succ, List.set_cons_zero]; rfl) ?_
              refine wpG_do (by rfl) (fun w2 hx2 K hK => ?_)
              go_wp2_with fail
              refine (c_Ranges w2 (ht.ext (Ext.trans hx hx2))).mono ?_
              rintro e w3 ⟨rv, R, rfl, hR, hor, hx3⟩
              refine hK _ _ ⟨EOn.of_ext hx3, ?_⟩
              clear hK
              have hRL : R.filter (fun x => !(x.cl == rest)) = L := by
                have h1 := HNF.out.all
                rw [← h1.2]
                congr 1
                exact (hR.congr fun r a b => HF.out r a b).unique h1.1
              rw [hRL] at hor
              have hrg2 := RgRow.of_own hor
              clear hRL hR
              refine wpG_do (by rfl) (fun w4 hx4 K hK => ?_)
              go_wp2_with fail
              refine (c_Same _ _ L L true w4 (hrg2.mono hx4) (hrg.mono (Ext.trans (Ext.trans hx2 hx3) hx4)) (by simp) hl).mono ?_
              rintro e w5 ⟨rfl, hx5⟩
              refine hK _ _ ⟨EOn.of_ext hx5, ?_⟩
              clear hK
              repeat first
                | refine wpG_move (by rfl) (by simp only [Act.eval, Array.getD_eq_getD_getElem?, List.getElem?_toArray, List.getElem?_cons_succ, List.getElem?_cons_zero, Option.getD_some]; try rfl) (by simp only [Act.put, List.setIfInBounds_toArray, List.set_cons_succ, List.set_cons_zero]; rfl) ?_
                | refine wpG_assign (by rfl) (by simp only [Act.eval, Array.getD_eq_getD_getElem?, List.getElem?_toArray, List.getElem?_cons_succ, List.getElem?_cons_zero, Option.getD_some]; try rfl) (by simp only [Act.put, List.setIfInBounds_toArray, List.set_cons_succ, List.set_cons_zero]; rfl) ?_
                | refine wpG_val (by rfl) (fun w' hx => (by go_simp; first | (go_bits; first | exact rfl | exact ⟨by omega, rfl⟩) | exact rfl | exact (if_neg (by omega)).trans rfl | exact ⟨by omega, rfl⟩)) (by simp only [Act.put, List.setIfInBounds_toArray, List.set_cons_succ, List.set_cons_zero]; rfl) ?_
                | refine wpG_no (by rfl) (by simp only [Act.put, List.setIfInBounds_toArray, List.set_cons_succ, List.set_cons_zero]; rfl) ?_
              refine wpG_end (fun w6 hx6 => wpList_nil (gQ_normal ?_))
              go_wp2_with fail
              go_ret
              exact ⟨rfl, Ext.trans hx (Ext.trans (Ext.trans (Ext.trans (Ext.trans hx2 hx3) hx4) hx5) hx6)⟩
end Go.Proofs.Ytbbemipidkhmfaa
