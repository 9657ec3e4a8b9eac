/-
 Elements in a slice; the sort by insertion.
-/
import Derived.Test.YtokeamebcdhnpaaGreatDoorWalkKL
import Derived.Test.YtokeamebcdhnpaaGreatDoorSymM
namespace Go.Proofs.YtokeamebcdhnpaaGreatDoor
open Go.RowKit Go.Rp Go.Shelf Go.Maps Go.Nm

/-- A block that holds elements between other cells. -/
def Arr (W : World) (g : Nat) (pre : List Value) (R : List El) (post : List Value) : Prop := W.heap[g]? = some (.cells (pre ++ elCells R ++ post).toArray 146 (0, 0))
theorem elCells_get : ∀ (R : List El) (i : Nat) (h : i < R.length), (elCells R)[i * 3]? = some (.int .i32 R[i].r) ∧ (elCells R)[i * 3 + 1]? = some (.int .i64 R[i].ord) ∧ (elCells R)[i * 3 + 2]? = some (.int .i64 (if R[i].bad = true then 1 else 0))
 | [], i, h => by simp at h
 | x :: t, 0, _ => by simp [elCells, elV]
 | x :: t, i + 1, h => by
  have e : elCells (x :: t) = elV x ++ elCells t := rfl
  have hl : (elV x).length = 3 := rfl
  obtain ⟨h1, h2, h3⟩ := elCells_get t i (by simpa using h)
  rw [e]
  refine ⟨?_, ?_, ?_⟩
  ·rw [List.getElem?_append_right (by omega), hl, show (i + 1) * 3 - 3 = i * 3 by omega]; simpa using h1
  ·rw [List.getElem?_append_right (by omega), hl, show (i + 1) * 3 + 1 - 3 = i * 3 + 1 by omega]; simpa using h2
  ·rw [List.getElem?_append_right (by omega), hl, show (i + 1) * 3 + 2 - 3 = i * 3 + 2 by omega]; simpa using h3
theorem Arr.get {W : World} {g : Nat} {pre post : List Value} {R : List El} (h : Arr W g pre R post) {i : Nat} (hi : i < R.length) :
  W.cell? ⟨g, pre.length + i * 3, none⟩ = some (.int .i32 R[i].r) ∧ W.cell? ⟨g, pre.length + i * 3 + 1, none⟩ = some (.int .i64 R[i].ord) ∧ W.cell? ⟨g, pre.length + i * 3 + 2, none⟩ = some (.int .i64 (if R[i].bad = true then 1 else 0)) := by
 obtain ⟨h1, h2, h3⟩ := elCells_get R i hi
 have hl := elCells_length R
 have f : ∀ j, j < 3 → (pre ++ elCells R ++ post)[pre.length + i * 3 + j]? = (elCells R)[i * 3 + j]? := fun j hj => by
  rw [List.append_assoc, List.getElem?_append_right (by omega), List.getElem?_append_left (by rw [hl]; omega)]
  congr 1
  omega
 refine ⟨?_, ?_, ?_⟩
 ·rw [cell_blk h]; simpa using (f 0 (by omega)).trans h1
 ·rw [cell_blk h]; simpa using (f 1 (by omega)).trans h2
 ·rw [cell_blk h]; simpa using (f 2 (by omega)).trans h3
theorem c_cmp (ar ao az br bo bz : Int) (w : World) (ha : 0 ≤ ao ∧ ao < 256) (hb : 0 ≤ bo ∧ bo < 256) : Calls Tryz.prog 90 #[.agg #[.int .i32 ar, .int .i64 ao, .int .i64 az], .agg #[.int .i32 br, .int .i64 bo, .int .i64 bz]] w fun e w' => e = .returned (.int .i64 (ao - bo)) ∧ Ext w w' := by
 go_enter Tryz.func90, Tryz.ntmps90
 go_wp2_with fail
 exact ret_one rfl rfl rfl ⟨rfl, ((Ext.refl w).alloc _).alloc _⟩
/-- The world with one element laid anew. -/
def setE (W : World) (g p : Nat) (x : El) : World := ((W.setCell ⟨g, p, none⟩ (.int .i32 x.r)).setCell ⟨g, p + 1, none⟩ (.int .i64 x.ord)).setCell ⟨g, p + 2, none⟩ (.int .i64 (if x.bad = true then 1 else 0))
theorem elCells_set (m : List El) (i : Nat) (x : El) (h : i < m.length) : (((elCells m).set (i * 3) (.int .i32 x.r)).set (i * 3 + 1) (.int .i64 x.ord)).set (i * 3 + 2) (.int .i64 (if x.bad = true then 1 else 0)) = elCells (m.set i x) := by
 obtain ⟨pre, y, t, rfl, rfl⟩ : ∃ pre y t, m = pre ++ y :: t ∧ pre.length = i := ⟨m.take i, m[i], m.drop (i + 1), by rw [← List.drop_eq_getElem_cons h, List.take_append_drop], by rw [List.length_take]; omega⟩
 have e : elCells (pre ++ y :: t) = elCells pre ++ (elV y ++ elCells t) := by rw [elCells_append]; rfl
 have e2 : (pre ++ y :: t).set pre.length x = pre ++ x :: t := by simp
 have e3 : elCells (pre ++ x :: t) = elCells pre ++ (elV x ++ elCells t) := by rw [elCells_append]; rfl
 have hl := elCells_length pre
 rw [e2, e, e3]
 rw [List.set_append_right _ _ (by omega), List.set_append_right _ _ (by omega), List.set_append_right _ _ (by omega), hl]
 congr 1
 rw [show pre.length * 3 - pre.length * 3 = 0 from by omega, show pre.length * 3 + 1 - pre.length * 3 = 1 from by omega, show pre.length * 3 + 2 - pre.length * 3 = 2 from by omega]
 rfl
theorem grown_set (W : World) (g p : Nat) (v : Value) : W.grownBy (W.setCell ⟨g, p, none⟩ v) (some g) := ⟨rfl, rfl, rfl, (KeepsWalks.setCell W _ v).size, fun k _ hk => Below.heap_setCell _ _ _ k (fun e => hk (by rw [e]))⟩
theorem mid_set (pre l post : List Value) (k : Nat) (v : Value) (h : k < l.length) : (pre ++ l ++ post).set (pre.length + k) v = pre ++ l.set k v ++ post := by
 rw [List.append_assoc, List.set_append_right _ _ (by omega), show pre.length + k - pre.length = k from by omega, List.set_append_left _ _ h, List.append_assoc]
theorem Arr.setE {W : World} {g : Nat} {pre post : List Value} {R : List El} (h : Arr W g pre R post) {i : Nat} (hi : i < R.length) (x : El) : Arr (setE W g (pre.length + i * 3) x) g pre (R.set i x) post ∧ W.grownBy (Go.Proofs.YtokeamebcdhnpaaGreatDoor.setE W g (pre.length + i * 3) x) (some g) := by
 have hl := elCells_length R
 refine ⟨?_, ((grown_set _ _ _ _).trans (grown_set _ _ _ _)).trans (grown_set _ _ _ _)⟩
 have h1 := set_blk h (pre.length + i * 3) (.int .i32 x.r)
 have h2 := set_blk h1 (pre.length + i * 3 + 1) (.int .i64 x.ord)
 have h3 := set_blk h2 (pre.length + i * 3 + 2) (.int .i64 (if x.bad = true then 1 else 0))
 unfold Arr Go.Proofs.YtokeamebcdhnpaaGreatDoor.setE
 rw [h3]
 congr 2
 rw [← elCells_set R i x hi]
 simp only [List.setIfInBounds_toArray]
 rw [mid_set _ _ _ _ _ (by omega), show pre.length + i * 3 + 1 = pre.length + (i * 3 + 1) from by omega, mid_set _ _ _ _ _ (by simp; omega), show pre.length + i * 3 + 2 = pre.length + (i * 3 + 2) from by omega, mid_set _ _ _ _ _ (by simp; omega)]
theorem Arr.frozen {W : World} {g : Nat} {pre post : List Value} {R : List El} (h : Arr W g pre R post) (p : Nat) : W.frozen? ⟨g, p, none⟩ = false := frz_blk h p
/-- One element laid, at the operation. -/
theorem wpList_storeE {ops : Array Oper} {rest : List Oper} {o : Oper} {a : Act} {w : World} {Q : Exit → Act → World → Prop} (hg : o.guard = none) (x y : Operand) (ho : o.op = .store 146 x y)
  {g i off : Nat} {pre post : List Value} {R : List El} (r : El) (hx : a.eval x = .pointer (some ⟨g, off, none⟩)) (hy : a.eval y = .agg (elV r).toArray) (hoff : off = pre.length + i * 3) (h : Arr w g pre R post) (hn : i < R.length)
  (hK : wpList Tryz.prog ops Q rest (a.put o.dst undef) (setE w g (pre.length + i * 3) r)) : wpList Tryz.prog ops Q (o :: rest) a w := by
 refine wpList_plain hg fun K' hK' => ?_
 subst hoff
 obtain ⟨g1, g2, g3⟩ := h.get hn
 have hrun : (Instr.storeAt 146 (.pointer (some ⟨g, pre.length + i * 3, none⟩)) (.agg (elV r).toArray)).run Tryz.prog w = .ok () (setE w g (pre.length + i * 3) r) := by
  simp only [Instr.storeAt, Instr.sureAddr, Sem.run_bind, Sem.run_pure, Result.andThen]
  have hst := run_storeCells_cells (P := Tryz.prog) g (pre.length + i * 3) (elV r) 0 w (fun j hj => by
   have hj3 : j < 3 := hj
   match j, hj3 with
   | 0, _ => exact congrArg Option.isSome g1
   | 1, _ => exact congrArg Option.isSome g2
   | 2, _ => exact congrArg Option.isSome g3) (fun j _ => h.frozen _) (by intro v hv; simp [elV] at hv; rcases hv with rfl | rfl | rfl <;> rfl)
  have hv : (sizeOf 146).run Tryz.prog w = .ok 3 w := Tryz.sizeOf146 w
  unfold storeVar
  simp only [Sem.run_bind, hv, Result.andThen]
  have e : (Value.agg (elV r).toArray).cells.size = 3 := rfl
  simp only [e, ne_eq, not_true_eq_false, if_false]
  exact hst
 unfold Oper.wp
 simp [execOp, ho, hx, hy, hrun, Result.andThen]
 exact hK' _ _ hK
theorem mid_get {A B : List El} {x : El} {L : List El} (h : L = A ++ x :: B) : ∃ hi : A.length < L.length, L[A.length] = x := by
 subst h
 exact ⟨by simp, by simp⟩
theorem mid_swap {A B : List El} {x y : El} : ((A ++ y :: x :: B).set (A.length + 1) y).set A.length x = A ++ x :: y :: B := by
 rw [List.set_append_right _ _ (by omega), List.set_append_right _ _ (by omega)]
 simp
def OrdOk (R : List El) : Prop := ∀ x ∈ R, 0 < x.ord ∧ x.ord < 256
set_option maxRecDepth 100000 in
set_option maxHeartbeats 8000000 in
theorem c_insert (g : Nat) (pre post : List Value) (R R' A M B : List El) (na nb n cap : Nat) (w : World) (h : Arr w g pre R post) (hR : R = A ++ M ++ B) (hR' : R' = A ++ sortL M ++ B) (ha : na = A.length) (hb : nb = A.length + M.length) (hn : n = R.length) (hl : n ≤ 1000000000) (ho : OrdOk R) :
  Calls Tryz.prog 136 #[.slice (some ⟨g, pre.length, none⟩) n cap, .int .i64 (na : Nat), .int .i64 (nb : Nat), .func (.func 90) #[] #[]] w fun e w' => e = .returned (.tuple #[]) ∧ Arr w' g pre R' post ∧ w.grownBy w' (some g) := by
 have HRR := Lib.hid hR'
 clear hR'
 have hnb : nb ≤ n := by rw [hb, hn, hR]; simp
 have hab : na ≤ nb := by omega
 have HH := Lib.hid (And.intro hR (And.intro ha (And.intro hb (And.intro hn ho))))
 have hna : (na : Int) ≤ 1000000000 := by omega
 clear hR ha hb hn ho
 go_enter Tryz.func136, Tryz.ntmps136
 go_wp2_with fail
 go_loopw [8] (fun iv W => ∃ i1 q : Nat, iv = .int .i64 (i1 : Nat) ∧ i1 = na + q ∧ 1 ≤ q ∧ na + q ≤ nb + 1 ∧ Arr W g pre (A ++ (sortL (M.take q) ++ M.drop q) ++ B) post ∧ w.grownBy W (some g)) (fun iv _ => nb + 2 - (intOf iv).toNat)
 case atStart =>
  refine ⟨na + 1, 1, by simp, rfl, by omega, by omega, ?_, World.grownBy.refl _ _⟩
  have e : sortL (M.take 1) ++ M.drop 1 = M := by
   cases M with
   | nil => rfl
   | cons x t => rfl
  rw [e, ← HH.out.1]
  exact h
 case round =>
  clear h
  obtain ⟨i1, q, rfl, hiq, hq1, hq2, hA, hg⟩ := hrel
  have HIQ := Lib.hid (And.intro hiq (And.intro hq1 hq2))
  clear hiq hq1 hq2
  by_cases hlt : i1 < nb
  ·have hltI : ((i1 : Nat) : Int) < (nb : Nat) := by omega
   have hqm : q < M.length := by have := HH.out; have := HIQ.out; omega
   obtain ⟨x, hx⟩ : ∃ x, M[q] = x := ⟨_, rfl⟩
   have hdr : M.drop q = x :: M.drop (q + 1) := by rw [← hx]; exact List.drop_eq_getElem_cons hqm
   have htk : M.take (q + 1) = M.take q ++ [x] := by rw [List.take_add_one, List.getElem?_eq_getElem hqm, hx]; rfl
   have HTK := Lib.hid htk
   rw [hdr] at hA
   have hmR : ∀ y ∈ M, 0 < y.ord ∧ y.ord < 256 := fun y hy => HH.out.2.2.2.2 y (by rw [HH.out.1]; simp [hy])
   have HMR := Lib.hid hmR
   have HXR := Lib.hid (hmR x (by rw [← hx]; exact List.getElem_mem hqm))
   obtain ⟨D, hD⟩ : ∃ D, M.drop (q + 1) ++ B = D := ⟨_, rfl⟩
   have HDB := Lib.hid hD
   have hA0 : Arr wr g pre (A ++ (sortL (M.take q) ++ x :: []) ++ D) post := by rw [← hD]; simpa using hA
   have HLN := Lib.hid (show n = na + q + 1 + D.length by
    have h1 := HH.out
    rw [← hD, h1.2.2.2.1, h1.1]
    simp only [List.length_append, List.length_drop]
    omega)
   have HLP := Lib.hid (show (sortL (M.take q)).length = q by rw [sortL_len, List.length_take]; omega)
   clear hA hD hdr htk hx hmR hqm
   obtain ⟨Wo, rfl⟩ : ∃ Wo, Wo = wr := ⟨wr, rfl⟩
   go_wp2_with fail
   go_loopw [9] (fun jv W => ∃ (j : Nat) (P1 P2 : List El), jv = .int .i64 (j : Nat) ∧ Hid (j = na + P1.length ∧ P1 ++ P2 = sortL (M.take q) ∧ ∀ y ∈ P2, x.ord < y.ord) ∧ Arr W g pre (A ++ (P1 ++ x :: P2) ++ D) post ∧ w.grownBy W (some g)) (fun jv _ => (intOf jv).toNat)
   case atStart => exact ⟨i1, sortL (M.take q), [], rfl, Lib.hid ⟨by rw [HLP.out]; exact HIQ.out.1, by simp, by simp⟩, hA0, hg⟩
   case round =>
    clear hA0 hg
    obtain ⟨j, P1, P2, rfl, hP, hA, hg⟩ := hrel
    rcases List.eq_nil_or_concat P1 with rfl | ⟨P, y, rfl⟩
    ·obtain rfl : j = na := by simpa using hP.out.1
     have hnn : ¬ ((j : Nat) : Int) < (j : Nat) := by omega
     have HEND := Lib.hid (show Arr wr g pre (A ++ (sortL (M.take (q + 1)) ++ M.drop (q + 1)) ++ B) post by
      have e := ins_end (N := M.take q) (P1 := []) (P2 := P2) (x := x) (fun y hy => (HMR.out y (List.mem_of_mem_take hy)).1) HXR.out.1 hP.out.2.1 hP.out.2.2 (.inl rfl)
      rw [HTK.out, ← e, List.append_assoc, List.append_assoc, HDB.out, ← List.append_assoc]
      exact hA)
     clear hA
     go_wp2_with fail
     refine wp_lex (fun _ => True) [true, true, true, true, true, true, true, true, true, true, true, true, true, true, true, true, true] (by kernel_rfl) (by kernel_rfl) ?_
     repeat first
      | refine wpG_move' ?_
      | refine wpG_assign' ?_
      | refine wpG_val' ?_
      | refine wpG_no' ?_
     refine wpG_end (fun w5 hx5 => ?_)
     have HE5 := Lib.hid (show Arr w5 g pre (A ++ (sortL (M.take (q + 1)) ++ M.drop (q + 1)) ++ B) post ∧ w.grownBy w5 (some g) from ⟨hx5.blk HEND.out, hg.trans (ext_grown hx5 _)⟩)
     clear hx5 hg
     go_wp2_with fail
     refine gQ_normal ?_
     go_wp2_with fail
     go_roundw
     case rel => exact ⟨i1 + 1, q + 1, by simp, by have := HIQ.out; omega, by omega, by have := HIQ.out; omega, HE5.out.1, HE5.out.2⟩
     case measure => simp [intOf]; omega
    ·rw [List.concat_eq_append] at hP hA
     obtain ⟨j1, rfl⟩ : ∃ j1, j = j1 + 1 := ⟨j - 1, by have h := hP.out.1; rw [List.length_append] at h; simp at h; omega⟩
     have HJ := Lib.hid (show j1 = na + P.length by have h := hP.out.1; rw [List.length_append] at h; simp at h; omega)
     have hgt : ((na : Nat) : Int) < (j1 : Nat) + 1 := by have := HJ.out; omega
     have hi0 : (A ++ P).length = j1 := by have := HJ.out; have := HH.out; rw [List.length_append]; omega
     have hsplit : A ++ (P ++ [y] ++ x :: P2) ++ D = (A ++ P) ++ y :: x :: (P2 ++ D) := by simp
     have HSP := Lib.hid hsplit
     rw [hsplit] at hA
     have hlenA : ((A ++ P) ++ y :: x :: (P2 ++ D)).length = n := by
      have h3 := HLN.out
      have h4 := congrArg List.length hP.out.2.1
      have h5 := HLP.out
      have h6 := HH.out
      have h7 := HJ.out
      simp only [List.length_append, List.length_cons, List.length_nil] at h4 ⊢
      omega
     obtain ⟨hiy, ey⟩ := mid_get (A := A ++ P) (x := y) (B := x :: (P2 ++ D)) rfl
     obtain ⟨hix, ex⟩ := mid_get (A := A ++ P ++ [y]) (x := x) (B := P2 ++ D) (L := (A ++ P) ++ y :: x :: (P2 ++ D)) (by simp)
     obtain ⟨c0, c1, c2⟩ := hA.get hiy
     obtain ⟨d0, d1, d2⟩ := hA.get hix
     rw [ey] at c0 c1 c2
     rw [ex] at d0 d1 d2
     have hi1 : (A ++ P ++ [y]).length = j1 + 1 := by rw [List.length_append, hi0]; rfl
     rw [hi0] at c0 c1 c2
     rw [hi1] at d0 d1 d2
     have hn1 : ((j1 : Nat) : Int) + 1 < (n : Nat) := by rw [hi1, hlenA] at hix; omega
     have hn0 : ((j1 : Nat) : Int) < (n : Nat) := by omega
     have HI := Lib.hid (And.intro hi0 (And.intro hi1 hlenA))
     have hyr : 0 < y.ord ∧ y.ord < 256 := by
      have hm : y ∈ sortL (M.take q) := by rw [← hP.out.2.1]; simp
      exact HMR.out y (List.mem_of_mem_take (sortL_mem.1 hm))
     obtain ⟨yo, hyo⟩ : ∃ z, y.ord = z := ⟨_, rfl⟩
     obtain ⟨xo, hxo⟩ : ∃ z, x.ord = z := ⟨_, rfl⟩
     obtain ⟨yr, hyr0⟩ : ∃ z, y.r = z := ⟨_, rfl⟩
     obtain ⟨xr, hxr0⟩ : ∃ z, x.r = z := ⟨_, rfl⟩
     obtain ⟨yz, hyz⟩ : ∃ z : Int, (if y.bad = true then 1 else 0) = z := ⟨_, rfl⟩
     obtain ⟨xz, hxz⟩ : ∃ z : Int, (if x.bad = true then 1 else 0) = z := ⟨_, rfl⟩
     have HV := Lib.hid (show Value.agg (elV y).toArray = .agg #[.int .i32 yr, .int .i64 yo, .int .i64 yz] ∧ Value.agg (elV x).toArray = .agg #[.int .i32 xr, .int .i64 xo, .int .i64 xz] by
      rw [← hyo, ← hxo, ← hyr0, ← hxr0, ← hyz, ← hxz]; exact ⟨rfl, rfl⟩)
     have HO := Lib.hid (And.intro hyo hxo)
     have HCC := Lib.hid (show ∀ w', Calls Tryz.prog 90 #[.agg #[.int .i32 xr, .int .i64 xo, .int .i64 xz], .agg #[.int .i32 yr, .int .i64 yo, .int .i64 yz]] w' fun e w'' => e = .returned (.int .i64 (xo - yo)) ∧ Ext w' w'' from fun w' => c_cmp _ _ _ _ _ _ w' (by have := HXR.out; omega) (by omega))
     rw [hyr0] at c0
     rw [hyo] at c1
     rw [hyz] at c2
     rw [hxr0] at d0
     rw [hxo] at d1
     rw [hxz] at d2
     have y0 : ∀ w', EOn (fun _ => True) wr w' → w'.cell? ⟨g, pre.length + j1 * 3, none⟩ = some (.int .i32 yr) := fun w' hx => hx.cell trivial c0
     have y1 : ∀ w', EOn (fun _ => True) wr w' → w'.cell? ⟨g, pre.length + j1 * 3 + 1, none⟩ = some (.int .i64 yo) := fun w' hx => hx.cell trivial c1
     have y2 : ∀ w', EOn (fun _ => True) wr w' → w'.cell? ⟨g, pre.length + j1 * 3 + 2, none⟩ = some (.int .i64 yz) := fun w' hx => hx.cell trivial c2
     have z0 : ∀ w', EOn (fun _ => True) wr w' → w'.cell? ⟨g, pre.length + (j1 + 1) * 3, none⟩ = some (.int .i32 xr) := fun w' hx => hx.cell trivial d0
     have z1 : ∀ w', EOn (fun _ => True) wr w' → w'.cell? ⟨g, pre.length + (j1 + 1) * 3 + 1, none⟩ = some (.int .i64 xo) := fun w' hx => hx.cell trivial d1
     have z2 : ∀ w', EOn (fun _ => True) wr w' → w'.cell? ⟨g, pre.length + (j1 + 1) * 3 + 2, none⟩ = some (.int .i64 xz) := fun w' hx => hx.cell trivial d2
     clear hsplit hlenA hiy ey hix ex hi0 hi1 hyr hyo hxo hyr0 hxr0 hyz hxz c0 c1 c2 d0 d1 d2
     go_wp2_with fail
     refine wp_lex (fun _ => True) [true, true, true, true, true, true, true, true, true, true, true, true, true, true, true, true, true] (by kernel_rfl) (by kernel_rfl) ?_
     repeat first
      | refine wpG_move' ?_
      | refine wpG_assign' ?_
      | refine wpG_val' ?_
      | refine wpG_no' ?_
     refine wpG_call (by rfl) (fun w' hx => (by go_simp <;> first | exact rfl | exact ⟨rfl, rfl⟩)) (fun w' hx => HCC.out w') (by simp only [Act.put, List.setIfInBounds_toArray, List.set_cons_succ, List.set_cons_zero]; rfl) ?_
     by_cases hlt2 : xo < yo
     ·have hlt3 : xo - yo < 0 := by omega
      have hd3 := decide_eq_true hlt3
      repeat first
       | refine wpG_move' ?_
       | refine wpG_assign' ?_
       | refine wpG_val' ?_
       | refine wpG_no' ?_
      refine wpG_end (fun w5 hx5 => ?_)
      replace y0 := fun w' hx => y0 w' (EOn.trans (EOn.of_ext hx5) hx)
      replace y1 := fun w' hx => y1 w' (EOn.trans (EOn.of_ext hx5) hx)
      replace y2 := fun w' hx => y2 w' (EOn.trans (EOn.of_ext hx5) hx)
      replace z0 := fun w' hx => z0 w' (EOn.trans (EOn.of_ext hx5) hx)
      replace z1 := fun w' hx => z1 w' (EOn.trans (EOn.of_ext hx5) hx)
      replace z2 := fun w' hx => z2 w' (EOn.trans (EOn.of_ext hx5) hx)
      replace hA := show Arr w5 g pre _ post from hx5.blk hA
      replace hg := hg.trans (ext_grown hx5 (some g))
      clear hx5
      go_wp2_with fail
      refine gQ_normal ?_
      go_wp2_with fail
      refine wp_reck (fun _ => True) [0, 1, 2, 3, 4, 5, 6, 7, 8, 10, 11, 12] [9, 13, 14, 15, 16, 17] [true, true] (by kernel_rfl) (by kernel_rfl) (by simp only [List.map_cons, List.map_nil, nth]; rfl) (by simp only [List.map_cons, List.map_nil, nth]; rfl) (fun wq hxq => ?_)
      repeat first
       | refine wpP_move' ?_
       | refine wpP_val' ?_
      refine wpP_end ?_
      replace y0 := fun w' hx => y0 w' (EOn.trans (EOn.of_ext hxq) hx)
      replace y1 := fun w' hx => y1 w' (EOn.trans (EOn.of_ext hxq) hx)
      replace y2 := fun w' hx => y2 w' (EOn.trans (EOn.of_ext hxq) hx)
      replace z0 := fun w' hx => z0 w' (EOn.trans (EOn.of_ext hxq) hx)
      replace z1 := fun w' hx => z1 w' (EOn.trans (EOn.of_ext hxq) hx)
      replace z2 := fun w' hx => z2 w' (EOn.trans (EOn.of_ext hxq) hx)
      replace hA := show Arr wq g pre _ post from hxq.blk hA
      replace hg := hg.trans (ext_grown hxq (some g))
      clear hxq
      repeat first
       | refine wpG_move' ?_
       | refine wpG_assign' ?_
       | refine wpG_val' ?_
       | refine wpG_no' ?_
      refine wpG_end (fun w6 hx6 => ?_)
      replace hA := show Arr w6 g pre _ post from hx6.blk hA
      replace hg := hg.trans (ext_grown hx6 (some g))
      clear hx6 y0 y1 y2 z0 z1 z2
      have hI1 : j1 + 1 < ((A ++ P) ++ y :: x :: (P2 ++ D)).length := by rw [HI.out.2.2]; omega
      obtain ⟨hS1, hG1⟩ := hA.setE hI1 y
      have hI0 : j1 < (((A ++ P) ++ y :: x :: (P2 ++ D)).set (j1 + 1) y).length := by rw [List.length_set, HI.out.2.2]; omega
      obtain ⟨hS2, hG2⟩ := hS1.setE hI0 x
      have hsw : (((A ++ P) ++ y :: x :: (P2 ++ D)).set (j1 + 1) y).set j1 x = A ++ (P ++ x :: (y :: P2)) ++ D := by
       rw [← HI.out.1, mid_swap]; simp
      rw [hsw] at hS2
      have hg2 := (hg.trans hG1).trans hG2
      have HAA := Lib.hid hA
      have HS1 := Lib.hid hS1
      have HS2 := Lib.hid hS2
      have HG := Lib.hid hg2
      have hII := Lib.hid (And.intro hI1 hI0)
      clear hsw hg hA hS1 hS2 hg2 hI1 hI0 hG1 hG2
      go_wp2_with (first | (refine wpList_storeE rfl (.tmp 51) (.tmp 46) rfl (i := j1 + 1) y rfl HV.out.1.symm rfl HAA.out hII.out.1 ?_; obtain ⟨W1, hW1⟩ : ∃ W, setE w6 g (pre.length + (j1 + 1) * 3) y = W := ⟨_, rfl⟩; rw [hW1] at HS1 HS2 HG ⊢; clear hW1 HAA) | (refine wpList_storeE rfl (.tmp 52) (.tmp 50) rfl (i := j1) x rfl HV.out.2.symm rfl HS1.out hII.out.2 ?_; obtain ⟨W2, hW2⟩ : ∃ W, setE W1 g (pre.length + j1 * 3) x = W := ⟨_, rfl⟩; rw [hW2] at HS2 HG ⊢; clear hW2 HS1))
      refine gQ_normal ?_
      go_wp2_with fail
      go_roundw
      case rel => exact ⟨j1, P, y :: P2, by simp, Lib.hid ⟨HJ.out, by rw [← hP.out.2.1]; simp, fun z hz => by
       rcases List.mem_cons.1 hz with rfl | hz
       ·have := HO.out; omega
       ·exact hP.out.2.2 z hz⟩, HS2.out, HG.out⟩
      case measure => simp [intOf]
     ·have hlt3 : ¬ xo - yo < 0 := by omega
      have hd3 := decide_eq_false hlt3
      repeat first
       | refine wpG_move' ?_
       | refine wpG_assign' ?_
       | refine wpG_val' ?_
       | refine wpG_no' ?_
      refine wpG_end (fun w5 hx5 => ?_)
      have HE5 := Lib.hid (show Arr w5 g pre (A ++ (sortL (M.take (q + 1)) ++ M.drop (q + 1)) ++ B) post ∧ w.grownBy w5 (some g) from ⟨hx5.blk (by
       have e := ins_end (N := M.take q) (P1 := P ++ [y]) (P2 := P2) (x := x) (fun y hy => (HMR.out y (List.mem_of_mem_take hy)).1) HXR.out.1 hP.out.2.1 hP.out.2.2 (.inr ⟨P, y, rfl, by have := HO.out; omega⟩)
       have e' : A ++ (sortL (M.take (q + 1)) ++ M.drop (q + 1)) ++ B = (A ++ P) ++ y :: x :: (P2 ++ D) := by rw [HTK.out, ← e, ← HDB.out]; simp
       rw [e']
       exact hA), hg.trans (ext_grown hx5 _)⟩)
      clear hx5 hg hA y0 y1 y2 z0 z1 z2
      go_wp2_with fail
      refine gQ_normal ?_
      go_wp2_with fail
      go_roundw
      case rel => exact ⟨i1 + 1, q + 1, by simp, by have := HIQ.out; omega, by omega, by have := HIQ.out; omega, HE5.out.1, HE5.out.2⟩
      case measure => simp [intOf]; omega
  ·have hltI : ¬ ((i1 : Nat) : Int) < (nb : Nat) := by omega
   have HEND := Lib.hid (show Arr wr g pre R' post by
    rw [HRR.out]
    have h1 := HIQ.out
    have h2 := HH.out
    have e1 : M.take q = M := List.take_of_length_le (by omega)
    have e2 : M.drop q = [] := List.drop_of_length_le (by omega)
    rw [e1, e2, List.append_nil] at hA
    exact hA)
   clear hA
   go_wp2_with fail
   refine bodyPost_end (results_none rfl _ _ _) rfl ?_
   exact ⟨rfl, HEND.out, hg⟩
end Go.Proofs.YtokeamebcdhnpaaGreatDoor
