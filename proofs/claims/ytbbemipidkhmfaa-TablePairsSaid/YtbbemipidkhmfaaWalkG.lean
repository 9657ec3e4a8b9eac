/-
  How many numbers have a class.
-/
import Derived.Test.YtbbemipidkhmfaaWalkF
namespace Go.Proofs.Ytbbemipidkhmfaa
open Go.RowKit Go.Maps

/-- How often a class stands in a block. -/
def cntB (c : Int) (b : List Int) : Nat := b.countP fun x => decide (x = c)
theorem cntB_le (c : Int) (b : List Int) : cntB c b ≤ b.length := List.countP_le_length
theorem cntB_step (c : Int) (b : List Int) (i : Nat) (h : i < b.length) : cntB c (b.take (i + 1)) = cntB c (b.take i) + if b[i] = c then 1 else 0 := by
  rw [List.take_succ_eq_append_getElem h]
  unfold cntB
  rw [List.countP_append]
  congr 1
  by_cases e : b[i] = c
  · rw [if_pos e]; simp [List.countP_cons, e]
  · rw [if_neg e]; simp [List.countP_cons, e]
/-- The counts of the first blocks; nought behind them. -/
def cntsTo (c : Int) (U : List (List Int)) (j : Nat) : List Nat := (U.take j).map (cntB c) ++ List.replicate (U.length - j) 0
def i64s (l : List Nat) : List Value := l.map fun n => .int .i64 ((n : Nat) : Int)
theorem i64s_get (l : List Nat) (k : Nat) (h : k < l.length) : (i64s l)[k]? = some (.int .i64 ((l[k] : Nat) : Int)) := by simp [i64s, h]
theorem i64s_set (l : List Nat) (k n : Nat) : (i64s l).set k (.int .i64 ((n : Nat) : Int)) = i64s (l.set k n) := by simp [i64s, List.map_set]
theorem cntsTo_length (c : Int) (U : List (List Int)) (j : Nat) (h : j ≤ U.length) : (cntsTo c U j).length = U.length := by simp [cntsTo]; omega
theorem cntsTo_step (c : Int) (U : List (List Int)) (j : Nat) (h : j < U.length) : (cntsTo c U j).set j (cntB c U[j]) = cntsTo c U (j + 1) := by
  unfold cntsTo
  rw [List.take_succ_eq_append_getElem h, List.map_append, List.set_append_right _ _ (by simp; omega)]
  obtain ⟨m, hm⟩ : ∃ m, U.length - j = m + 1 := ⟨U.length - j - 1, by omega⟩
  rw [hm, show U.length - (j + 1) = m from by omega]
  simp [Nat.min_eq_left (Nat.le_of_lt h), List.replicate_succ]
theorem cells_load83o {w : World} {b off : Nat} {l : List Int} (h : ∀ i (hi : i < l.length), w.cell? ⟨b, off + i, none⟩ = some (.int .u8 l[i])) (hl : l.length = 128) : (Instr.loadAt 83 (.pointer (some ⟨b, off, none⟩))).run Try.prog w = .ok (.agg (u8s l)) w := by
  have := run_loadCells_list (P := Try.prog) w ⟨b, off, none⟩ (u8s l).toList (fun j v hv => by
    have hadd : (⟨b, off, none⟩ : Addr).add j = ⟨b, off + j, none⟩ := by unfold Addr.add; split <;> simp_all
    have hj : j < l.length := by
      have := (List.getElem?_eq_some_iff.1 hv).1
      simpa [u8s] using this
    rw [hadd, h j hj]
    simpa [u8s, hj] using hv)
  have hsz : (sizeOf 83).run Try.prog w = .ok 128 w := Try.sizeOf83 w
  have hag : (isAgg 83).run Try.prog w = .ok true w := Try.isAgg83 w
  have hlen : (u8s l).toList.length = 128 := by simp [u8s, hl]
  rw [hlen] at this
  simp [Instr.loadAt, Instr.sureAddr, Go.loadVar, hag, hsz, this, Result.andThen]
theorem wpList_load83o {ops : Array Oper} {rest : List Oper} {o : Oper} {a : Act} {w : World} {Q : Exit → Act → World → Prop} {b off : Nat} {l : List Int} (hg : o.guard = none) (x : Operand) (ho : o.op = .load 83 x)
    (hx : a.eval x = .pointer (some ⟨b, off, none⟩)) (h : ∀ i (hi : i < l.length), w.cell? ⟨b, off + i, none⟩ = some (.int .u8 l[i])) (hl : l.length = 128) (hK : wpList Try.prog ops Q rest (a.put o.dst (.agg (u8s l))) w) : wpList Try.prog ops Q (o :: rest) a w := by
  refine wpList_plain hg fun K' hK' => ?_
  have hrun := cells_load83o h hl
  unfold Oper.wp
  simp [execOp, ho, hx, hrun, Result.andThen]
  exact hK' _ _ hK
theorem info3p : (Try.prog.info? 3).map (fun i => (i.zero, i.size, i.bytes)) = some (some (.int .i64 0), 1, 8) := by kernel_rfl
/-- All blocks' counts. -/
def total (f : Int → Int) (c : Int) : Nat → Nat
  | 0 => 0
  | n + 1 => total f c n + cntB c (blkOf f n)
theorem total_le (f : Int → Int) (c : Int) (n : Nat) : total f c n ≤ 128 * n := by
  induction n with
  | zero => simp [total]
  | succ n ih =>
    have := cntB_le c (blkOf f n)
    rw [blkOf_length] at this
    simp only [total]
    omega

theorem run_index83 (w : World) (b : List Int) (m : Nat) (hb : b.length = 128) (hm : m < b.length) : (Instr.index 83 (.agg (u8s b)) (.int .i64 ((m : Nat) : Int))).run Try.prog w = .ok (.int .u8 b[m]) w := by
  have hu : Try.prog.underlying 83 = some (.array 128 5) := Try.underlying83
  have hsz : (sizeOf 5).run Try.prog w = .ok 1 w := Try.sizeOf5 w
  have hag : (isAgg 5).run Try.prog w = .ok false w := Try.isAgg5 w
  have hg := u8s_get b m hm
  have h1 : ¬ (128 ≤ m) := by omega
  simp [Instr.index, asIntOf, underlying, hu, hsz, part, hag, hg, Result.andThen]
  intro h; exact absurd h h1
theorem wpList_index83 {ops : Array Oper} {rest : List Oper} {o : Oper} {a : Act} {w : World} {Q : Exit → Act → World → Prop} {b : List Int} {m : Nat} {z : Int} (hg : o.guard = none) (x y : Operand) (ho : o.op = .index 83 x y)
    (hx : a.eval x = .agg (u8s b)) (hy : a.eval y = .int .i64 ((m : Nat) : Int)) (hb : b.length = 128) (hm : m < b.length) (hz : b[m] = z) (hK : wpList Try.prog ops Q rest (a.put o.dst (.int .u8 z)) w) : wpList Try.prog ops Q (o :: rest) a w := by
  refine wpList_plain hg fun K' hK' => ?_
  have hrun := run_index83 w b m hb hm
  rw [hz] at hrun
  unfold Oper.wp
  simp [execOp, ho, hx, hy, hrun, Result.andThen]
  exact hK' _ _ hK
theorem made_one (v : Value) (n : Nat) : (madeCells #[v] n).toList = List.replicate n v := by
  apply List.ext_getElem
  · simp [madeCells]
  · intro i h1 h2
    simp [madeCells, Nat.mod_one]
theorem ext_grown {w w' : World} (hg : w.grownBy w' none) : Ext w w' := (Below.refl _ w).grown hg (Nat.le_refl _) (fun k e => by cases e)
set_option maxRecDepth 100000 in
set_option maxHeartbeats 4000000 in
theorem c_Count {T : Nat} {rest : Int} {f : Int → Int} {U : List (List Int)} {ix : List Nat} {ob oc ub uc : Nat} (c : Int) (w : World) (h : Tab w T rest f U ix ob oc ub uc) :
    Calls Try.prog 16 #[.pointer (some ⟨T, 0, none⟩), .int .i64 c] w fun e w' => e = .returned (.int .i64 (total f c 8704 : Nat)) ∧ Ext w w' := by
  obtain ⟨i0, hi, hz0, hz1, hz2⟩ := info_parts info3p
  have hule := h.ule
  have q2 := cell_blk h.hT 2
  have q1 := cell_blk h.hT 1
  simp only [List.getElem?_toArray, List.getElem?_cons_succ, List.getElem?_cons_zero] at q1 q2
  go_enter Try.func16, Try.ntmps16
  go_wp2_with (at_make; refine wpList_make_full _ rfl (.tmp 19) (.tmp 19) 26 rfl w.heap.size 3 i0 (.int .i64 0) 1 Try.underlying26 hi hz0 hz1 .i64 .i64 _ _ U.length rfl rfl rfl rfl (by rw [hz2]; omega) (by unfold maxLen; omega) (Nat.le_refl _) ?_; intro w1 hown hgr; have hx1 := ext_grown hgr; have q2b := hx1.cell q2)
  have h1 := h.ext hx1
  have hmade : (madeCells (Value.int .i64 0).cells (U.length * 1)).toList = i64s (cntsTo c U 0) := by
    rw [show (Value.int .i64 0).cells = #[.int .i64 0] from rfl, made_one]
    simp [cntsTo, i64s]
  rw [hmade] at hown
  clear q1 q2 q2b hmade hgr
  go_loopw [6, 7, 9, 26] (fun _ _ _ k w' => ∃ j : Nat, k = .int .i64 (j : Nat) ∧ j ≤ U.length ∧ w'.ownsRow w.heap.size 3 1 (.slice (some ⟨w.heap.size, 0, none⟩) U.length U.length) U.length (i64s (cntsTo c U j)) ∧ Tab w' T rest f U ix ob oc ub uc ∧ Ext w w') (fun _ _ _ k _ => U.length + 1 - (intOf k).toNat)
  case atStart => exact ⟨0, rfl, by omega, hown, h1, hx1⟩
  case round =>
    obtain ⟨j, rfl, hj, hown, h1, hx⟩ := hrel
    by_cases hlt : j < U.length
    · obtain ⟨b, hbe⟩ : ∃ b, U[j] = b := ⟨_, rfl⟩
      have hcells : Hid (∀ i (hi : i < b.length), wr.cell? ⟨ub, j * 128 + i, none⟩ = some (.int .u8 b[i])) := Lib.hid (by subst hbe; exact fun i hi => h1.hu j i hlt hi)
      have hb : OkB b := by rw [← hbe]; exact h1.okb U[j] (List.getElem_mem hlt)
      have HB := Lib.hid hbe
      have hd : decide (j < U.length) = true := decide_eq_true hlt
      have i1 : ((j : Nat) : Int) < (U.length : Nat) := by omega
      have hz := Holds83.new wr
      have hz2 := hz.setRow b
      have hx2 : Ext wr ((wr.alloc (.cells Try.zeroCells83 83)).setRow wr.heap.size (u8s b)) := Ext.setRow ((Ext.refl wr).alloc _) _ (Nat.le_refl _) _
      have hown2 := ownsRow_ext hown hx2
      have h2 := h1.ext hx2
      have hxw := Ext.trans hx hx2
      have hb1 := hb.1
      clear hbe
      go_wp2_with (first | refine wpList_load83o rfl (.tmp 29) rfl rfl hcells.out hb.1 ?_ | refine wpList_store83 rfl (.tmp 7) (.tmp 30) rfl rfl rfl hz (rep_length 0) hb.1 ?_ | refine wpList_load83 rfl (.tmp 7) rfl rfl hz2 hb.1 ?_)
      obtain ⟨W, hW⟩ : ∃ W, ((wr.alloc (.cells Try.zeroCells83 83)).setRow wr.heap.size (u8s b)) = W := ⟨_, rfl⟩
      rw [hW] at hown2 h2 hxw ⊢
      clear hW hz hz2 hx2 hown h1 hx hcells
      go_loopw [9, 32] (fun _ i w' => ∃ m : Nat, i = .int .i64 (m : Nat) ∧ m ≤ 128 ∧ w'.ownsRow w.heap.size 3 1 (.slice (some ⟨w.heap.size, 0, none⟩) U.length U.length) U.length (i64s ((cntsTo c U j).set j (cntB c (b.take m)))) ∧ Tab w' T rest f U ix ob oc ub uc ∧ Ext w w') (fun _ i _ => 129 - (intOf i).toNat)
      case atStart =>
        refine ⟨0, rfl, by omega, ?_, h2, hxw⟩
        have e : (cntsTo c U j).set j (cntB c (b.take 0)) = cntsTo c U j := by
          apply List.ext_getElem
          · simp
          · intro i a1 a2
            rw [List.getElem_set]
            split
            · rename_i e
              subst e
              have : (cntsTo c U j)[j]'a2 = 0 := by
                have h0 : (cntsTo c U j)[j]? = some 0 := by
                  unfold cntsTo
                  rw [List.getElem?_append_right]
                  · rw [List.length_map, List.length_take, Nat.min_eq_left hj, Nat.sub_self]
                    obtain ⟨q, hq⟩ : ∃ q, U.length - j = q + 1 := ⟨U.length - j - 1, by omega⟩
                    rw [hq]
                    rfl
                  · rw [List.length_map, List.length_take]
                    exact Nat.min_le_left _ _
                exact (List.getElem?_eq_some_iff.1 h0).2
              rw [this]
              rfl
            · rfl
        rw [e]
        exact hown2
      case round =>
        obtain ⟨m, rfl, hm, hown, h1, hx⟩ := hrel
        by_cases hlt2 : m < 128
        · have hmb : m < b.length := by omega
          obtain ⟨x, hxb⟩ : ∃ x, b[m] = x := ⟨_, rfl⟩
          have hxr := hb.2 b[m] (List.getElem_mem hmb)
          rw [hxb] at hxr
          obtain ⟨x0, x1⟩ := hxr
          have hst := cntB_step c b m hmb
          rw [hxb] at hst
          have HST := Lib.hid hst
          have HXB := Lib.hid hxb
          have hcl := cntsTo_length c U j hj
          have hcell := (hown.cellAt j (by omega)).trans (i64s_get _ j (by rw [List.length_set, hcl]; omega))
          rw [show ((cntsTo c U j).set j (cntB c (b.take m)))[j]'(by rw [List.length_set, hcl]; omega) = cntB c (b.take m) from by simp] at hcell
          have hfr := hown.frozenAt j
          have hcb := cntB_le c (b.take m)
          have hcb2 : cntB c (b.take m) ≤ 128 := by rw [List.length_take] at hcb; omega
          have HCL := Lib.hid hcl
          have hd2 : decide (((m : Nat) : Int) < 128) = true := decide_eq_true (by omega)
          clear hst hxb hcl hcb
          by_cases hxc : x = c
          · go_wp2_with (refine wpList_index83 rfl (.tmp 31) (.tmp 32) rfl rfl rfl hb1 hmb HXB.out ?_)
            have hs := (hown.stored j (.int .i64 ((cntB c (b.take m) : Nat) + 1 : Int))).1
            have hxn : Ext w (wr.setCell ⟨w.heap.size, j, none⟩ (.int .i64 ((cntB c (b.take m) : Nat) + 1 : Int))) := Below.setCell hx (p := ⟨w.heap.size, j, none⟩) (Nat.le_refl _) _
            refine ⟨⟨m + 1, by simp, by omega, ?_, h.ext hxn, hxn⟩, by simp [intOf]; omega⟩
            have e : cntB c (b.take (m + 1)) = cntB c (b.take m) + 1 := by rw [HST.out, if_pos hxc]
            rw [e]
            have := i64s_set ((cntsTo c U j).set j (cntB c (b.take m))) j (cntB c (b.take m) + 1)
            rw [List.set_set] at this
            rw [← this]
            exact hs
          · have hxf : (x == c) = false := beq_false_of_ne hxc
            go_wp2_with (refine wpList_index83 rfl (.tmp 31) (.tmp 32) rfl rfl rfl hb1 hmb HXB.out ?_)
            refine ⟨⟨m + 1, by simp, by omega, ?_, h1, hx⟩, by simp [intOf]; omega⟩
            have e : cntB c (b.take (m + 1)) = cntB c (b.take m) := by rw [HST.out, if_neg hxc]; rfl
            rw [e]
            exact hown
        · have hd2 : decide (((m : Nat) : Int) < 128) = false := decide_eq_false (by omega)
          have e : (cntsTo c U j).set j (cntB c (b.take m)) = cntsTo c U (j + 1) := by
            rw [List.take_of_length_le (by omega), ← HB.out]
            exact cntsTo_step c U j hlt
          rw [e] at hown
          clear e
          go_wp2_with fail
          exact ⟨⟨j + 1, by simp, by omega, hown, h1, hx⟩, by simp [intOf]; omega⟩
    · have hd : decide (j < U.length) = false := decide_eq_false hlt
      have e : cntsTo c U j = U.map (cntB c) := by
        unfold cntsTo
        rw [List.take_of_length_le (by omega), show U.length - j = 0 from by omega]
        simp
      rw [e] at hown
      have q1 := cell_blk h1.hT 1
      simp only [List.getElem?_toArray, List.getElem?_cons_succ, List.getElem?_cons_zero] at q1
      have hixl := Lib.hid h1.ixl
      clear e hj hlt
      go_wp2_with fail
      go_loop [10, 12, 52] (fun s _ k => ∃ m : Nat, k = .int .i64 (m : Nat) ∧ m ≤ 8704 ∧ s = .int .i64 (total f c m : Nat)) (fun _ _ k => 8705 - (intOf k).toNat)
      case atStart => exact ⟨0, rfl, by omega, rfl⟩
      case round =>
        obtain ⟨m, rfl, hm, rfl⟩ := hrel
        have htl := total_le f c m
        by_cases hlt : m < 8704
        · have hmx : m < ix.length := by rw [hixl.out]; exact hlt
          have hbk := h1.ixok m hmx
          have ho := h1.ho m hmx
          obtain ⟨k, hk⟩ : ∃ k, ix[m] = k := ⟨_, rfl⟩
          rw [hk] at hbk ho
          obtain ⟨hkU, hkb⟩ := List.getElem?_eq_some_iff.1 hbk
          have hcell := (hown.cellAt k (by omega)).trans (i64s_get _ k (by simpa using hkU))
          rw [show (U.map (cntB c))[k]'(by simpa using hkU) = cntB c (blkOf f m) from by simp [hkb]] at hcell
          have hcb := cntB_le c (blkOf f m)
          rw [blkOf_length] at hcb
          have hd2 : decide (((m : Nat) : Int) < 8704) = true := decide_eq_true (by omega)
          have i1 : ((m : Nat) : Int) < 8704 := by omega
          have i2 : ((k : Nat) : Int) < (U.length : Nat) := by omega
          clear hk hbk hkb
          go_wp2_with fail
          go_round
          case rel => exact ⟨m + 1, by simp, by omega, by simp [total]⟩
          case measure => simp [intOf]; omega
        · have e : m = 8704 := by omega
          have E := Lib.hid e
          have hd2 : decide (((m : Nat) : Int) < 8704) = false := decide_eq_false (by omega)
          clear e hlt hm
          go_wp2_with fail
          go_ret
          exact ⟨by rw [E.out]; rfl, hx⟩
end Go.Proofs.Ytbbemipidkhmfaa
