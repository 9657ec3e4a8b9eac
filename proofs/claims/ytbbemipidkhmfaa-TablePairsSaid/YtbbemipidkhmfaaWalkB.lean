/-
  A block's classes, filled of ranges.
-/
import Derived.Test.YtbbemipidkhmfaaWalkA
namespace Go.Proofs.Ytbbemipidkhmfaa
open Go.RowKit

/-- A block of classes as cells. -/
def u8s (l : List Int) : Array Value := (l.map (Value.int .u8)).toArray
theorem u8s_get (l : List Int) (k : Nat) (h : k < l.length) : (u8s l)[k]? = some (.int .u8 l[k]) := by simp [u8s, h]
theorem u8s_set (l : List Int) (k : Nat) (c : Int) : (u8s l).setIfInBounds k (.int .u8 c) = u8s (l.set k c) := by
  simp [u8s, List.map_set]
theorem zeros83 : Try.zeroCells83 = u8s (List.replicate 128 0) := by kernel_rfl
theorem blk_put (g : Int → Int) (n : Nat) (r : Int) (c : Int) (h1 : ((128 * n : Nat) : Int) ≤ r) : (blkOf g n).set (r - ((128 * n : Nat) : Int)).toNat c = blkOf (fun q => if q = r then c else g q) n := by
  refine blk_ext (by simp [blkOf_length]) fun i hi => ?_
  rw [List.getElem_set]
  by_cases h : (r - ((128 * n : Nat) : Int)).toNat = i
  · rw [if_pos h, if_pos (by omega)]
  · rw [if_neg h, if_neg (by omega), blkOf_get]
/-- What the cells of a block hold. -/
def Holds83 (w : World) (b : Nat) (l : List Int) : Prop := w.heap[b]? = some (.cells (u8s l) 83)
theorem Holds83.cell {w : World} {b : Nat} {l : List Int} (h : Holds83 w b l) (k : Nat) (hk : k < l.length) : w.cell? ⟨b, k, none⟩ = some (.int .u8 l[k]) := (cell_blk h k).trans (u8s_get l k hk)
theorem Holds83.frozen {w : World} {b : Nat} {l : List Int} (h : Holds83 w b l) (k : Nat) : w.frozen? ⟨b, k, none⟩ = false := frz_blk h k
theorem Holds83.set {w : World} {b : Nat} {l : List Int} (h : Holds83 w b l) (k : Nat) (c : Int) : Holds83 (w.setCell ⟨b, k, none⟩ (.int .u8 c)) b (l.set k c) := by
  have := set_blk h k (.int .u8 c)
  rw [u8s_set] at this
  exact this
theorem Holds83.other {w : World} {b b' : Nat} {l : List Int} (h : Holds83 w b l) (hne : b' ≠ b) (k : Nat) (v : Value) : Holds83 (w.setCell ⟨b', k, none⟩ v) b l := by
  show (w.setCell ⟨b', k, none⟩ v).heap[b]? = _
  rw [Below.heap_setCell _ _ _ b (fun e => hne e.symm)]
  exact h
theorem Holds83.ext {w w' : World} {b : Nat} {l : List Int} (h : Holds83 w b l) (hx : Ext w w') : Holds83 w' b l := hx.blk h

theorem u8s_size (l : List Int) : (u8s l).size = l.length := by simp [u8s]
theorem info83 : (Try.prog.info? 83).map (·.size) = some 128 := by kernel_rfl
theorem Holds83.loads {w : World} {b : Nat} {l : List Int} (h : Holds83 w b l) (hl : l.length = 128) : (loadCellsFrom ⟨b, 0, none⟩ 0 128 #[]).run Try.prog w = .ok (u8s l) w := by
  have := run_loadCells_list (P := Try.prog) w ⟨b, 0, none⟩ (u8s l).toList (fun j v hv => by
    have hadd : (⟨b, 0, none⟩ : Addr).add j = ⟨b, j, none⟩ := by unfold Addr.add; split <;> simp_all
    rw [hadd, cell_of_row w b j (u8s l) 83 (0, 0) h]
    simpa using hv)
  simpa [loadCells, u8s, hl] using this
theorem Holds83.stores {w : World} {b : Nat} {l l' : List Int} (h : Holds83 w b l) (hl : l.length = 128) (hl' : l'.length = 128) : (storeCells ⟨b, 0, none⟩ (u8s l').toList 0).run Try.prog w = .ok () (w.setRow b (u8s l')) := by
  have := run_storeVar_row (P := Try.prog) w b 83 83 (u8s l) (u8s l') h (by rw [info83, u8s_size, hl']) (by rw [u8s_size, u8s_size, hl, hl']) (by simp [u8s]; intro x _; rfl)
  cases hq : Try.prog.info? 83 with
  | none => have := info83; simp [hq] at this
  | some i =>
    have hs : i.size = 128 := by have := info83; simp [hq] at this; exact this
    simpa [storeVar, sizeOf, typeInfo, hq, Value.cells, hs, u8s_size, hl'] using this
theorem Holds83.setRow {w : World} {b : Nat} {l : List Int} (h : Holds83 w b l) (l' : List Int) : Holds83 (w.setRow b (u8s l')) b l' := setRow_heap w b (u8s l) (u8s l') _ _ h
theorem grownBy_setRow (w : World) (b : Nat) (c : Array Value) : w.grownBy (w.setRow b c) (some b) :=
  ⟨rfl, rfl, rfl, by simp [World.setRow], fun k _ hk => by
    show (w.heap.modify b _)[k]? = _
    rw [Array.getElem?_modify, if_neg (fun e => hk (by rw [e]))]⟩
theorem Ext.setRow {w w' : World} (h : Ext w w') (b : Nat) (hb : w.heap.size ≤ b) (c : Array Value) : Ext w (w'.setRow b c) := Below.grown h (grownBy_setRow w' b c) h.sz (fun k e => by cases e; exact hb)

theorem Holds83.loadVar {w : World} {b : Nat} {l : List Int} (h : Holds83 w b l) (hl : l.length = 128) : (Go.loadVar 83 ⟨b, 0, none⟩).run Try.prog w = .ok (.agg (u8s l)) w :=
  run_loadVar_row w b 83 83 (u8s l) (0, 0) _ h Try.underlying83 rfl (by rw [info83, u8s_size, hl])
/-- A block's classes out of a variable, and into one, at the operation. -/
theorem wpList_load83 {ops : Array Oper} {rest : List Oper} {o : Oper} {a : Act} {w : World} {Q : Exit → Act → World → Prop} {b : Nat} {l : List Int} (hg : o.guard = none) (x : Operand) (ho : o.op = .load 83 x)
    (hx : a.eval x = .pointer (some ⟨b, 0, none⟩)) (h : Holds83 w b l) (hl : l.length = 128) (hK : wpList Try.prog ops Q rest (a.put o.dst (.agg (u8s l))) w) : wpList Try.prog ops Q (o :: rest) a w := by
  refine wpList_plain hg fun K' hK' => ?_
  have hrun : (Instr.loadAt 83 (.pointer (some ⟨b, 0, none⟩))).run Try.prog w = .ok (.agg (u8s l)) w := by
    simp only [Instr.loadAt, Instr.sureAddr, Sem.run_bind, Sem.run_pure, Result.andThen]
    exact run_loadVar_row w b 83 83 (u8s l) (0, 0) _ h Try.underlying83 rfl (by rw [info83, u8s_size, hl])
  unfold Oper.wp
  simp [execOp, ho, hx, hrun, Result.andThen]
  exact hK' _ _ hK
theorem wpList_store83 {ops : Array Oper} {rest : List Oper} {o : Oper} {a : Act} {w : World} {Q : Exit → Act → World → Prop} {b : Nat} {l l' : List Int} (hg : o.guard = none) (x y : Operand) (ho : o.op = .store 83 x y)
    (hx : a.eval x = .pointer (some ⟨b, 0, none⟩)) (hy : a.eval y = .agg (u8s l')) (h : Holds83 w b l) (hl : l.length = 128) (hl' : l'.length = 128) (hK : wpList Try.prog ops Q rest (a.put o.dst undef) (w.setRow b (u8s l'))) : wpList Try.prog ops Q (o :: rest) a w := by
  refine wpList_plain hg fun K' hK' => ?_
  have hrun : (Instr.storeAt 83 (.pointer (some ⟨b, 0, none⟩)) (.agg (u8s l'))).run Try.prog w = .ok () (w.setRow b (u8s l')) := by
    simp only [Instr.storeAt, Instr.sureAddr, Sem.run_bind, Sem.run_pure, Result.andThen]
    exact run_storeVar_row (P := Try.prog) w b 83 83 (u8s l) (u8s l') h (by rw [info83, u8s_size, hl']) (by rw [u8s_size, u8s_size, hl, hl']) (by simp [u8s]; intro x _; rfl)
  unfold Oper.wp
  simp [execOp, ho, hx, hy, hrun, Result.andThen]
  exact hK' _ _ hK

/-- How long a slice is. -/
def lenV : Value → Nat
  | .slice _ n _ => n
  | _ => 0
set_option maxRecDepth 100000 in
set_option maxHeartbeats 2000000 in
theorem c_fill (v : Value) (l : List Rng) (rest : Int) (n : Nat) (w0 w : World) (hx0 : Ext w0 w) (h : RgRow w0 v l) (hl : Rise l) (hn : n < 8704) (hr0 : 0 ≤ rest) (hr1 : rest ≤ 255) :
    Calls Try.prog 76 #[v, .int .i64 rest, .int .i64 (n : Nat)] w fun e w' => ∃ v' j, e = .returned (.tuple #[.agg (u8s (blkOf (clsOf l rest) n)), v']) ∧ RgRow w0 v' (l.drop j) ∧ (∀ x ∈ l.take j, x.hi ≤ (n : Int) * 128 + 127) ∧ Ext w w' := by
  have h0 := h
  obtain ⟨p, cap, rfl, hcap, hc⟩ := h0
  have HL := Lib.hid hl
  have HC := Lib.hid hc
  clear hc hl
  go_enter Try.func76, Try.ntmps76
  go_wp2_with fail
  obtain ⟨wA, hwA⟩ : ∃ wA, wA = (w.alloc (Obj.cells Try.zeroCells83 83)).alloc (Obj.cells Try.zeroCells83 83) := ⟨_, rfl⟩
  have hb0 : Holds83 wA w.heap.size (List.replicate 128 0) := by
    show wA.heap[_]? = some (Obj.cells (u8s _) _)
    rw [hwA, ← zeros83]
    exact (Below.heap_alloc _ _ _ (by simp)).trans (World.alloc_heap_new w _)
  have hb1 : Holds83 wA (w.heap.size + 1) (List.replicate 128 0) := by
    show wA.heap[_]? = some (Obj.cells (u8s _) _)
    rw [hwA, ← zeros83]
    have := World.alloc_heap_new (w.alloc (Obj.cells Try.zeroCells83 83)) (Obj.cells Try.zeroCells83 83)
    rw [World.size_alloc] at this
    exact this
  have hxA : Ext w wA := by rw [hwA]; exact ((Ext.refl w).alloc _).alloc _
  rw [← hwA]
  clear hwA
  go_loopw [9, 13] (fun _ i w' => ∃ (k : Nat) (bs : List Int), i = .int .i64 (k : Nat) ∧ k ≤ 128 ∧ bs.length = 128 ∧ Hid (∀ j (hj : j < bs.length), j < k → bs[j] = rest) ∧ Holds83 w' (w.heap.size + 1) bs ∧ Holds83 w' w.heap.size (List.replicate 128 0) ∧ Ext w w') (fun _ i _ => 129 - (intOf i).toNat)
  case atStart => exact ⟨0, _, rfl, by omega, by simp, Lib.hid (fun j hj h => by omega), hb1, hb0, hxA⟩
  case round =>
    obtain ⟨k, bs, rfl, hk, hlen, hbs, hb1, hb0, hx⟩ := hrel
    by_cases hlt : k < 128
    · have hcell := hb1.cell k (by omega)
      have hfr := hb1.frozen k
      have hdk : decide (((k : Nat) : Int) < 128) = true := decide_eq_true (by omega)
      go_wp2_with fail
      have hb1' := hb1.set k rest
      have hb0' := hb0.other (b' := w.heap.size + 1) (by omega) k (.int .u8 rest)
      refine ⟨⟨k + 1, bs.set k rest, by simp, by omega, by simp [hlen], Lib.hid (fun j hj h => ?_), hb1', hb0', Below.setCell hx (p := ⟨w.heap.size + 1, k, none⟩) (by simp) _⟩, ?_⟩
      · rw [List.getElem_set]
        split
        · rfl
        · exact hbs.out j (by simpa using hj) (by omega)
      · simp [intOf]
        omega
    · have hbs2 : bs = blkOf (clsOf [] rest) n := blk_ext hlen fun j hj => hbs.out j hj (by omega)
      subst hbs2
      have hdk : decide (((k : Nat) : Int) < 128) = false := decide_eq_false (by omega)
      clear hlen hbs hk hlt
      go_wp2_with fail
      rename_i K HK
      have tail : ∀ (u1 u2 u3 u4 u5 u9 u10 u11 u12 u13 u14 u15 u16 u17 u18 u19 u20 u21 u22 u23 u24 u25 u26 u27 u28 u29 u30 u31 u32 u33 u34 u35 u36 u37 u38 u39 u40 u41 u42 u43 u44 u45 u46 u47 u48 u49 u50 u51 u52 u53 u54 u55 u56 u57 u58 u59 u60 u61 u62 u63 u64 u65 u66 u67 u68 u69 u70 u71 u72 : Value) (v' : Value) (j : Nat) (W : World), RgRow w0 v' (l.drop j) → (∀ x ∈ l.take j, x.hi ≤ (n : Int) * 128 + 127) → Holds83 W (w.heap.size + 1) (blkOf (clsOf l rest) n) → Holds83 W w.heap.size (List.replicate 128 0) → Ext w W → K { tmps := #[v', u1, u2, u3, u4, u5, .pointer (some ⟨w.heap.size, 0, none⟩), .slice none 0 0, .pointer (some ⟨w.heap.size + 1, 0, none⟩), u9, u10, u11, u12, u13, u14, u15, u16, u17, u18, u19, u20, u21, u22, u23, u24, u25, u26, u27, u28, u29, u30, u31, u32, u33, u34, u35, u36, u37, u38, u39, u40, u41, u42, u43, u44, u45, u46, u47, u48, u49, u50, u51, u52, u53, u54, u55, u56, u57, u58, u59, u60, u61, u62, u63, u64, u65, u66, u67, u68, u69, u70, u71, u72], defers := [] } W := by
        intro u1 u2 u3 u4 u5 u9 u10 u11 u12 u13 u14 u15 u16 u17 u18 u19 u20 u21 u22 u23 u24 u25 u26 u27 u28 u29 u30 u31 u32 u33 u34 u35 u36 u37 u38 u39 u40 u41 u42 u43 u44 u45 u46 u47 u48 u49 u50 u51 u52 u53 u54 u55 u56 u57 u58 u59 u60 u61 u62 u63 u64 u65 u66 u67 u68 u69 u70 u71 u72 v' j W hv hj g1 g0 hxW
        refine HK _ _ ?_
        have g3 := g0.setRow (blkOf (clsOf l rest) n)
        have hx3 := hxW.setRow w.heap.size (Nat.le_refl _) (u8s (blkOf (clsOf l rest) n))
        go_wp2_with (first | refine wpList_load83 rfl (.tmp 8) rfl rfl g1 (blkOf_length _ _) ?_ | refine wpList_store83 rfl (.tmp 6) (.tmp 71) rfl rfl rfl g0 (by simp) (blkOf_length _ _) ?_)
        have ld := g3.loadVar (blkOf_length _ _)
        refine bodyPost_ret (v := .tuple #[.agg (u8s (blkOf (clsOf l rest) n)), v']) ?_ rfl ⟨v', j, rfl, hv, hj, hx3⟩
        simp [results, Try.results76, asAddr, ld, Result.andThen]
      clear hdk
      go_loopw [0, 12] (fun s _ w' => ∃ j : Nat, RgRow w0 s (l.drop j) ∧ Hid (∀ x ∈ l.take j, x.hi ≤ (n : Int) * 128 + 127) ∧ Holds83 w' (w.heap.size + 1) (blkOf (clsOf (l.take j) rest) n) ∧ Holds83 w' w.heap.size (List.replicate 128 0) ∧ Ext w w') (fun s _ _ => lenV s)
      case atStart => exact ⟨0, by simpa using h, Lib.hid (by simp), by simpa using hb1, hb0, hx⟩
      case round =>
        obtain ⟨j, hv, hj, hb1, hb0, hx⟩ := hrel
        obtain ⟨suf, hsuf⟩ : ∃ suf, l.drop j = suf := ⟨_, rfl⟩
        rw [hsuf] at hv
        have hvH := Lib.hid hv
        have hrs : Rise suf := by rw [← hsuf]; exact HL.out.drop j
        have hsR := Lib.hid hrs
        have HS := Lib.hid hsuf
        clear hrs
        cases suf with
        | nil =>
          obtain ⟨p', cap', rfl, _, _⟩ := hv
          have e : blkOf (clsOf (l.take j) rest) n = blkOf (clsOf l rest) n := by
            have : l.take j = l := by rw [List.drop_eq_nil_iff] at hsuf; exact List.take_of_length_le hsuf
            rw [this]
          rw [e] at hb1
          clear e
          go_wp2_with fail
          exact tail _ _ _ _ _ _ _ _ _ _ _ _ _ _ _ _ _ _ _ _ _ _ _ _ _ _ _ _ _ _ _ _ _ _ _ _ _ _ _ _ _ _ _ _ _ _ _ _ _ _ _ _ _ _ _ _ _ _ _ _ _ _ _ _ _ _ _ _ _ _ j _ (by rw [HS.out]; exact hvH.out) hj.out hb1 hb0 hx
        | cons x t =>
          have hok := hsR.out.1
          obtain ⟨k0, k1, k2, k3, k4⟩ := hok
          clear hsuf
          obtain ⟨b, off, cap', rfl, hcap', c0, c1, c2⟩ := hv.head
          have c0' := (Ext.trans hx0 hx).cell c0
          have c1' := (Ext.trans hx0 hx).cell c1
          have c2' := (Ext.trans hx0 hx).cell c2
          have g0 : (0 : Int) < ((t.length : Nat) : Int) + 1 := by omega
          by_cases hlo : x.lo ≤ (n : Int) * 128 + 128 - 1
          · go_wp2_with fail
            go_loopw [12] (fun r w' => ∃ q : Int, r = .int .i32 q ∧ max x.lo ((n : Int) * 128) ≤ q ∧ q ≤ 1114113 ∧ (q ≤ x.hi + 1 ∧ q ≤ (n : Int) * 128 + 128 ∨ q = max x.lo ((n : Int) * 128)) ∧
              Holds83 w' (w.heap.size + 1) (blkOf (fun y => if max x.lo ((n : Int) * 128) ≤ y ∧ y < q then x.cl else clsOf (l.take j) rest y) n) ∧ Holds83 w' w.heap.size (List.replicate 128 0) ∧ Ext w w') (fun r _ => (1114114 - intOf r).toNat)
            case atStart =>
              refine ⟨_, rfl, by omega, by omega, .inr rfl, ?_, hb0, hx⟩
              rw [blkOf_congr (g := clsOf (l.take j) rest) (fun i _ => if_neg (by omega))]
              exact hb1
            case round =>
              obtain ⟨q, rfl, hq1, hq2, hq3, hb1, hb0, hx⟩ := hrel
              have c0' := (Ext.trans hx0 hx).cell c0
              have c1' := (Ext.trans hx0 hx).cell c1
              have c2' := (Ext.trans hx0 hx).cell c2
              by_cases hz : q ≤ min x.hi ((n : Int) * 128 + 128 - 1)
              · have hcell := hb1.cell (q - (n : Int) * 128).toNat (by rw [blkOf_length]; omega)
                have hfr := hb1.frozen (q - (n : Int) * 128).toNat
                have hi0 : 0 ≤ q - (n : Int) * 128 := by omega
                have hi1 : q - (n : Int) * 128 < 128 := by omega
                go_wp2_with fail
                have hb1' := hb1.set (q - (n : Int) * 128).toNat x.cl
                have hb0' := hb0.other (b' := w.heap.size + 1) (by omega) (q - (n : Int) * 128).toNat (.int .u8 x.cl)
                have hput := blk_put (fun y => if max x.lo ((n : Int) * 128) ≤ y ∧ y < q then x.cl else clsOf (l.take j) rest y) n q x.cl (by omega)
                rw [show ((128 * n : Nat) : Int) = (n : Int) * 128 from by omega] at hput
                rw [hput] at hb1'
                refine ⟨⟨q + 1, rfl, by omega, by omega, .inl (by omega), ?_, hb0', Below.setCell hx (p := ⟨w.heap.size + 1, _, none⟩) (by simp) _⟩, by simp [intOf]; omega⟩
                rw [blkOf_congr (g := fun y => if y = q then x.cl else if max x.lo ((n : Int) * 128) ≤ y ∧ y < q then x.cl else clsOf (l.take j) rest y)]
                · exact hb1'
                · intro i hi
                  by_cases e1 : ((128 * n + i : Nat) : Int) = q
                  · rw [if_pos e1, if_pos (by omega)]
                  · rw [if_neg e1]
                    by_cases e2 : max x.lo ((n : Int) * 128) ≤ ((128 * n + i : Nat) : Int) ∧ ((128 * n + i : Nat) : Int) < q
                    · rw [if_pos e2, if_pos (by omega)]
                    · rw [if_neg e2, if_neg (by omega)]
              · have hsplit : l = l.take j ++ x :: t := by rw [← HS.out, List.take_append_drop]
                have hap := Rise.apart (pre := l.take j) (suf := x :: t) (by rw [← hsplit]; exact HL.out)
                have e : blkOf (fun y => if max x.lo ((n : Int) * 128) ≤ y ∧ y < q then x.cl else clsOf (l.take j) rest y) n = blkOf (clsOf (l.take j ++ [x]) rest) n := by
                  refine blkOf_congr fun i hi => ?_
                  rw [clsOf_snoc (fun y hy => hap y hy x (by simp))]
                  by_cases e2 : x.lo ≤ ((128 * n + i : Nat) : Int) ∧ ((128 * n + i : Nat) : Int) ≤ x.hi
                  · rw [if_pos e2, if_pos (by omega)]
                  · rw [if_neg e2, if_neg (by omega)]
                rw [e] at hb1
                have HS2 := Lib.hid hsplit
                have HAP := Lib.hid hap
                clear e hsplit hap
                by_cases hbr : (n : Int) * 128 + 128 - 1 < x.hi
                · have e : blkOf (clsOf (l.take j ++ [x]) rest) n = blkOf (clsOf l rest) n := by
                    conv => rhs; rw [HS2.out, show l.take j ++ x :: t = (l.take j ++ [x]) ++ t from by simp]
                    refine blkOf_congr fun i hi => (clsOf_app_none fun y hy hh => ?_).symm
                    have := hsR.out.2.1 y hy
                    omega
                  rw [e] at hb1
                  clear e
                  go_wp2_with fail
                  exact tail _ _ _ _ _ _ _ _ _ _ _ _ _ _ _ _ _ _ _ _ _ _ _ _ _ _ _ _ _ _ _ _ _ _ _ _ _ _ _ _ _ _ _ _ _ _ _ _ _ _ _ _ _ _ _ _ _ _ _ _ _ _ _ _ _ _ _ _ _ _ j _ (by rw [HS.out]; exact hvH.out) hj.out hb1 hb0 hx
                · go_wp2_with fail
                  have hd : l.drop (j + 1) = t := by
                    have := congrArg (List.drop 1) HS.out
                    simpa [List.drop_drop] using this
                  have ht : l.take (j + 1) = l.take j ++ [x] := by rw [List.take_add, HS.out]; rfl
                  refine ⟨⟨j + 1, ?_, Lib.hid ?_, ?_, hb0, hx⟩, by simp [lenV]⟩
                  · rw [hd]
                    refine hvH.out.tail fun hne => if_neg fun h1 => ?_
                    have : 0 < t.length := List.length_pos_iff.2 hne
                    omega
                  · rw [ht]
                    intro y hy
                    rcases List.mem_append.1 hy with hy | hy
                    · exact hj.out y hy
                    · obtain rfl : y = x := by simpa using hy
                      omega
                  · rw [ht]
                    exact hb1
          · have e : blkOf (clsOf (l.take j) rest) n = blkOf (clsOf l rest) n := by
              conv => rhs; rw [← List.take_append_drop j l]
              refine blkOf_congr fun i hi => (clsOf_app_none fun y hy hh => ?_).symm
              rw [HS.out] at hy
              rcases List.mem_cons.1 hy with rfl | hy
              · omega
              · have := hsR.out.2.1 y hy
                omega
            rw [e] at hb1
            clear e
            go_wp2_with fail
            exact tail _ _ _ _ _ _ _ _ _ _ _ _ _ _ _ _ _ _ _ _ _ _ _ _ _ _ _ _ _ _ _ _ _ _ _ _ _ _ _ _ _ _ _ _ _ _ _ _ _ _ _ _ _ _ _ _ _ _ _ _ _ _ _ _ _ _ _ _ _ _ j _ (by rw [HS.out]; exact hvH.out) hj.out hb1 hb0 hx
end Go.Proofs.Ytbbemipidkhmfaa
