/-
  Tables as they lie: what Get, Rest and Blocks read.
-/
import Derived.Test.YtbbemipidkhmfaaWalkE
namespace Go.Proofs.Ytbbemipidkhmfaa
open Go.RowKit Go.Maps

/-- A table: its rest, the class of each number, its unlike blocks, each block's number. -/
structure Tab (W : World) (T : Nat) (rest : Int) (f : Int → Int) (U : List (List Int)) (ix : List Nat) (ob oc ub uc : Nat) : Prop where
  hT : W.heap[T]? = some (.cells #[.int .i64 rest, .slice (some ⟨ob, 0, none⟩) 8704 oc, .slice (some ⟨ub, 0, none⟩) U.length uc] 80)
  ho : ∀ n (h : n < ix.length), W.cell? ⟨ob, n, none⟩ = some (.int .u16 ((ix[n] : Nat) : Int))
  hu : ∀ k i (hk : k < U.length) (hi : i < U[k].length), W.cell? ⟨ub, k * 128 + i, none⟩ = some (.int .u8 U[k][i])
  ixl : ix.length = 8704
  ixok : ∀ n (h : n < ix.length), U[ix[n]]? = some (blkOf f n)
  okb : ∀ b ∈ U, OkB b
  uok : ∀ b ∈ U, ∃ n, n < 8704 ∧ b = blkOf f n
  nod : U.Nodup
  ule : U.length ≤ 8704
  r0 : 0 ≤ rest ∧ rest ≤ 255
theorem Tab.ext {W W' : World} {T : Nat} {rest : Int} {f : Int → Int} {U : List (List Int)} {ix : List Nat} {ob oc ub uc : Nat} (h : Tab W T rest f U ix ob oc ub uc) (hx : Ext W W') : Tab W' T rest f U ix ob oc ub uc :=
  ⟨hx.blk h.hT, fun n hn => hx.cell (h.ho n hn), fun k i hk hi => hx.cell (h.hu k i hk hi), h.ixl, h.ixok, h.okb, h.uok, h.nod, h.ule, h.r0⟩
theorem rowU_get : ∀ (U : List (List Int)) (_ : ∀ b ∈ U, b.length = 128) (k i : Nat) (hk : k < U.length) (hi : i < U[k].length), (rowU U)[k * 128 + i]? = some (.int .u8 U[k][i])
  | [], _, k, _, hk, _ => by simp at hk
  | b :: U, h, 0, i, hk, hi => by
    have e : rowU (b :: U) = b.map (Value.int .u8) ++ rowU U := rfl
    simp only [List.getElem_cons_zero] at hi
    rw [e, Nat.zero_mul, Nat.zero_add, List.getElem?_append_left (by simpa using hi)]
    simp [hi]
  | b :: U, h, k + 1, i, hk, hi => by
    have e : rowU (b :: U) = b.map (Value.int .u8) ++ rowU U := rfl
    have hb := h b (by simp)
    simp only [List.getElem_cons_succ] at hi ⊢
    rw [e, List.getElem?_append_right (by simp [hb]; omega)]
    have := rowU_get U (fun x hx => h x (by simp [hx])) k i (by simpa using hk) hi
    rw [List.length_map, hb, show (k + 1) * 128 + i - 128 = k * 128 + i from by omega]
    exact this
theorem ownsRow_pos {W : World} {base : Nat} {e : TypeId} {size : Nat} {v : Value} {k : Nat} {xs : List Value} (h : W.ownsRow base e size v k xs) (hk : 0 < k) : ∃ g cap, v = .slice (some ⟨g, 0, none⟩) k cap := by
  obtain ⟨k', rfl⟩ : ∃ k', k = k' + 1 := ⟨k - 1, by omega⟩
  exact ownsRow_succ h
theorem OfSt.tab {W : World} {n₀ T tb mf fb ms : Nat} {rest : Int} {f : Int → Int} {U : List (List Int)} {ix : List Nat} {cs : List (Int × Nat)} (h : OfSt W n₀ T tb mf fb ms rest f U ix cs) (hl : ix.length = 8704) (hr : 0 ≤ rest ∧ rest ≤ 255) :
    ∃ ob oc ub uc, Tab W T rest f U ix ob oc ub uc := by
  obtain ⟨ofV, ha, hro⟩ := h.add
  obtain ⟨unV, hT, hru⟩ := ha.un
  have hU : 0 < U.length := by
    have h0 := h.ixok 0 (by omega)
    have := (List.getElem?_eq_some_iff.1 h0).1
    omega
  have hro' := hro
  rw [hl] at hro'
  obtain ⟨ob, oc, rfl⟩ := ownsRow_pos hro' (by omega)
  obtain ⟨ub, uc, rfl⟩ := ownsRow_pos hru hU
  refine ⟨ob, oc, ub, uc, hT, fun n hn => ?_, fun k i hk hi => ?_, hl, h.ixok, ha.ok, fun b hb => by obtain ⟨n, hn, e⟩ := h.uok b hb; exact ⟨n, by omega, e⟩, h.nod, by have := h.ule; omega, hr⟩
  · rw [hro'.cellAt n (by omega)]
    simp [cells16, hn]
  · have hb := (ha.ok U[k] (List.getElem_mem hk)).1
    rw [hru.cellAt (k * 128 + i) (by
      have : k * 128 + 128 ≤ U.length * 128 := by
        have := Nat.mul_le_mul_right 128 (show k + 1 ≤ U.length from hk)
        omega
      omega)]
    exact rowU_get U (fun b hb => (ha.ok b hb).1) k i hk hi

/-- What Get tells. -/
def getOf (rest : Int) (f : Int → Int) (r : Int) : Int := if 0 ≤ r ∧ r ≤ 1114111 then f r else rest

set_option maxRecDepth 100000 in
set_option maxHeartbeats 2000000 in
theorem c_Get {T : Nat} {rest : Int} {f : Int → Int} {U : List (List Int)} {ix : List Nat} {ob oc ub uc : Nat} (r : Int) (w : World) (h : Tab w T rest f U ix ob oc ub uc) :
    Calls Try.prog 35 #[.pointer (some ⟨T, 0, none⟩), .int .i32 r] w fun e w' => e = .returned (.int .i64 (getOf rest f r)) ∧ Ext w w' := by
  by_cases h0 : 0 ≤ r
  · by_cases h1 : r ≤ 1114111
    · rw [getOf, if_pos ⟨h0, h1⟩]
      obtain ⟨m, rfl⟩ : ∃ m : Nat, r = (m : Int) := ⟨r.toNat, by omega⟩
      obtain ⟨n, hn⟩ : ∃ n, m / 128 = n := ⟨_, rfl⟩
      obtain ⟨i, hi⟩ : ∃ i, m % 128 = i := ⟨_, rfl⟩
      have hdiv : Int.tdiv (m : Int) 128 = (n : Int) := by rw [Int.tdiv_eq_ediv_of_nonneg (by omega)]; omega
      have hmod : Int.tmod (m : Int) 128 = (i : Int) := by rw [Int.tmod_eq_emod_of_nonneg (by omega)]; omega
      have hn2 : n < 8704 := by omega
      have hi2 : i < 128 := by omega
      have hnx : n < ix.length := by rw [h.ixl]; exact hn2
      have hb := h.ixok n hnx
      obtain ⟨k, hk⟩ : ∃ k, ix[n] = k := ⟨_, rfl⟩
      rw [hk] at hb
      obtain ⟨hkU, hkb⟩ := List.getElem?_eq_some_iff.1 hb
      have hc := h.hu k i hkU (by rw [hkb, blkOf_length]; exact hi2)
      have hfm : U[k][i]'(by rw [hkb, blkOf_length]; exact hi2) = f ((m : Nat) : Int) := by
        simp only [hkb]
        rw [blkOf_get]
        congr 2
        omega
      have hfr := (h.okb U[k] (List.getElem_mem hkU)).2 (U[k][i]'(by rw [hkb, blkOf_length]; exact hi2)) (List.getElem_mem _)
      rw [hfm] at hc hfr
      obtain ⟨f0, f1⟩ := hfr
      have ho := h.ho n hnx
      rw [hk] at ho
      have hule := h.ule
      have q1 : ∀ w', EOn (fun _ => True) w w' → w'.cell? ⟨T, 1, none⟩ = some (.slice (some ⟨ob, 0, none⟩) 8704 oc) := fun w' hx => hx.cell trivial (cell_blk h.hT 1)
      have q2 : ∀ w', EOn (fun _ => True) w w' → w'.cell? ⟨T, 2, none⟩ = some (.slice (some ⟨ub, 0, none⟩) U.length uc) := fun w' hx => hx.cell trivial (cell_blk h.hT 2)
      have q3 : ∀ w', EOn (fun _ => True) w w' → w'.cell? ⟨ob, n, none⟩ = some (.int .u16 (k : Nat)) := fun w' hx => hx.cell trivial ho
      have q4 : ∀ w', EOn (fun _ => True) w w' → w'.cell? ⟨ub, k * 128 + i, none⟩ = some (.int .u8 (f m)) := fun w' hx => hx.cell trivial hc
      have t1 : ¬ ((m : Int) < 0) := by omega
      have t2 : ¬ (1114111 < (m : Int)) := by omega
      have i1 : (n : Int) < 8704 := by omega
      have i2 : (k : Int) < (U.length : Nat) := by omega
      have i3 : (i : Int) < 128 := by omega
      clear h0 h1 hn hi hb hc ho hkb hfm hk
      go_enter Try.func35, Try.ntmps35
      go_wp2_with fail
      refine wp_lex (fun _ => True) [true, true, true, true, true, true, true, true, true, true, true, true, true, true, true, true, true, true, true] (by kernel_rfl) (by kernel_rfl) ?_
      repeat first
        | refine wpG_move (by rfl) (by simp only [Act.eval, Array.getD_eq_getD_getElem?, List.getElem?_toArray, List.getElem?_cons_succ, List.getElem?_cons_zero, Option.getD_some]; try rfl) (by simp only [Act.put, List.setIfInBounds_toArray, List.set_cons_succ, List.set_cons_zero]; rfl) ?_
        | refine wpG_assign (by rfl) (by simp only [Act.eval, Array.getD_eq_getD_getElem?, List.getElem?_toArray, List.getElem?_cons_succ, List.getElem?_cons_zero, Option.getD_some]; try rfl) (by simp only [Act.put, List.setIfInBounds_toArray, List.set_cons_succ, List.set_cons_zero]; rfl) ?_
        | refine wpG_val (by rfl) (fun w' hx => (by go_simp; first | (go_bits; first | exact rfl | exact ⟨by omega, rfl⟩) | exact rfl | exact (if_neg (by omega)).trans rfl | exact ⟨by omega, rfl⟩)) (by simp only [Act.put, List.setIfInBounds_toArray, List.set_cons_succ, List.set_cons_zero]; rfl) ?_
        | refine wpG_no (by rfl) (by simp only [Act.put, List.setIfInBounds_toArray, List.set_cons_succ, List.set_cons_zero]; rfl) ?_
      refine wpG_end (fun w1 hx1 => wpList_nil (gQ_normal ?_))
      go_wp2_with fail
      go_ret
      exact ⟨rfl, hx1⟩
    · rw [getOf, if_neg (fun h => h1 h.2)]
      have t1 : ¬ (r < 0) := by omega
      have t2 : 1114111 < r := by omega
      have q0 := cell_blk h.hT 0
      simp only [List.getElem?_toArray, List.getElem?_cons_zero] at q0
      clear h0 h1
      go_enter Try.func35, Try.ntmps35
      go_wp2_with fail
      go_ret
      exact ⟨rfl, Ext.refl w⟩
  · rw [getOf, if_neg (fun h => h0 h.1)]
    have t1 : r < 0 := by omega
    have q0 := cell_blk h.hT 0
    simp only [List.getElem?_toArray, List.getElem?_cons_zero] at q0
    clear h0
    go_enter Try.func35, Try.ntmps35
    go_wp2_with fail
    go_ret
    exact ⟨rfl, Ext.refl w⟩
theorem c_GetNil (r : Int) (w : World) : Calls Try.prog 35 #[.pointer none, .int .i32 r] w fun e w' => e = .returned (.int .i64 0) ∧ w' = w := by
  go_enter Try.func35, Try.ntmps35
  go_wp2_with fail
  go_ret
  exact ⟨rfl, rfl⟩
theorem c_RestNil (w : World) : Calls Try.prog 15 #[.pointer none] w fun e w' => e = .returned (.int .i64 0) ∧ w' = w := by
  go_enter Try.func15, Try.ntmps15
  go_wp2_with fail
  go_ret
  exact ⟨rfl, rfl⟩
theorem c_BlocksNil (w : World) : Calls Try.prog 20 #[.pointer none] w fun e w' => e = .returned (.int .i64 0) ∧ w' = w := by
  go_enter Try.func20, Try.ntmps20
  go_wp2_with fail
  go_ret
  exact ⟨rfl, rfl⟩
theorem c_CountNil (c : Int) (w : World) : Calls Try.prog 16 #[.pointer none, .int .i64 c] w fun e w' => e = .returned (.int .i64 0) ∧ w' = w := by
  go_enter Try.func16, Try.ntmps16
  go_wp2_with fail
  go_ret
  exact ⟨rfl, rfl⟩
theorem c_Rest {T : Nat} {rest : Int} {f : Int → Int} {U : List (List Int)} {ix : List Nat} {ob oc ub uc : Nat} (w : World) (h : Tab w T rest f U ix ob oc ub uc) :
    Calls Try.prog 15 #[.pointer (some ⟨T, 0, none⟩)] w fun e w' => e = .returned (.int .i64 rest) ∧ w' = w := by
  have q0 := cell_blk h.hT 0
  simp only [List.getElem?_toArray, List.getElem?_cons_zero] at q0
  go_enter Try.func15, Try.ntmps15
  go_wp2_with fail
  go_ret
  exact ⟨rfl, rfl⟩
theorem c_Blocks {T : Nat} {rest : Int} {f : Int → Int} {U : List (List Int)} {ix : List Nat} {ob oc ub uc : Nat} (w : World) (h : Tab w T rest f U ix ob oc ub uc) :
    Calls Try.prog 20 #[.pointer (some ⟨T, 0, none⟩)] w fun e w' => e = .returned (.int .i64 (U.length : Nat)) ∧ w' = w := by
  have q0 := cell_blk h.hT 2
  simp only [List.getElem?_toArray, List.getElem?_cons_succ, List.getElem?_cons_zero] at q0
  go_enter Try.func20, Try.ntmps20
  go_wp2_with fail
  go_ret
  exact ⟨rfl, rfl⟩
/-- Is a number a class? -/
def isCls (c : Int) : Bool := decide (0 ≤ c) && decide (c ≤ 255)
theorem c_isClass (c : Int) (w : World) : Calls Try.prog 63 #[.int .i64 c] w fun e w' => e = .returned (.bool (isCls c)) ∧ w' = w := by
  by_cases h0 : 0 ≤ c
  · have e : isCls c = decide (c ≤ 255) := by simp [isCls, h0]
    rw [e]
    go_enter Try.func63, Try.ntmps63
    go_wp2_with fail
    go_ret
    exact ⟨rfl, rfl⟩
  · have e : isCls c = false := by simp [isCls, h0]
    rw [e]
    go_enter Try.func63, Try.ntmps63
    go_wp2_with fail
    go_ret
    exact ⟨rfl, rfl⟩
end Go.Proofs.Ytbbemipidkhmfaa
