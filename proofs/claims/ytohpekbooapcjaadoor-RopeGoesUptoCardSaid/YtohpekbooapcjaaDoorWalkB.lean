/-
  The walks that make the sum of a text, and the sum of two.
-/
import Derived.Test.YtohpekbooapcjaaDoorWalkA
import Derived.Test.YtohpekbooapcjaaDoorPlan
import Derived.Deep.RegionWith
import Derived.Deep.RegionHeld3
import Derived.Deep.DeepCutAuto
import Derived.Deep.LoopGhost
import Derived.Lib.MinMax
import Derived.Lib.Hide
namespace Go.Proofs.YtohpekbooapcjaaDoor
open Go.RowKit Go.Rp

theorem set_blk {w : World} {b : Nat} {c : Array Value} {t : TypeId} {f : Nat × Nat} (h : w.heap[b]? = some (.cells c t f)) (i : Nat) (v : Value) :
    (w.setCell ⟨b, i, none⟩ v).heap[b]? = some (.cells (c.setIfInBounds i v) t f) := by
  show (w.heap.modify b _)[b]? = _
  rw [Array.getElem?_modify, if_pos rfl, h]
  rfl
theorem set6_blk {w : World} {b : Nat} {c0 c1 c2 c3 c4 c5 : Value} {t : TypeId} {f : Nat × Nat} (h : w.heap[b]? = some (.cells #[c0, c1, c2, c3, c4, c5] t f)) (v0 v1 v2 v3 v4 v5 : Value) :
    ((((((w.setCell ⟨b, 0, none⟩ v0).setCell ⟨b, 1, none⟩ v1).setCell ⟨b, 2, none⟩ v2).setCell ⟨b, 3, none⟩ v3).setCell ⟨b, 4, none⟩ v4).setCell ⟨b, 5, none⟩ v5).heap[b]? = some (.cells #[v0, v1, v2, v3, v4, v5] t f) :=
  set_blk (set_blk (set_blk (set_blk (set_blk (set_blk h 0 v0) 1 v1) 2 v2) 3 v3) 4 v4) 5 v5
theorem frz_blk {w : World} {b : Nat} {c : Array Value} {t : TypeId} (h : w.heap[b]? = some (.cells c t (0, 0))) (i : Nat) : w.frozen? ⟨b, i, none⟩ = false := by
  simp [World.frozen?, h]





def brkN (s : ByteArray) (k : Nat) : Nat := ((s.data.toList.take k).filter (· == 10)).length
theorem brkN_step (s : ByteArray) (k : Nat) (h : k < s.size) : brkN s (k + 1) = brkN s k + if (s[k].toNat : Int) = 10 then 1 else 0 := by
  unfold brkN
  rw [List.take_succ_eq_append_getElem (by simpa using h), List.filter_append, List.length_append]
  congr 1
  have e : s.data.toList[k]'(by simpa using h) = s[k] := rfl
  rw [e]
  by_cases g : s[k] = 10
  · simp [g]
  · have g' : ¬ (s[k].toNat : Int) = 10 := fun e => g (by apply UInt8.toNat_inj.1; simpa using (by omega : s[k].toNat = 10))
    rw [if_neg g']
    simp [g]
theorem brkN_le (s : ByteArray) (k : Nat) : brkN s k ≤ k := by
  unfold brkN
  exact Nat.le_trans (List.length_filter_le _ _) (List.length_take_le _ _)
theorem brkN_end (s : ByteArray) (k : Nat) (h : s.size ≤ k) : brkN s k = nBreaks s := by
  unfold brkN nBreaks
  rw [List.take_of_length_le (by rw [len_eq]; exact h)]

set_option maxHeartbeats 1000000 in
theorem c_of (s : ByteArray) (w : World) (hs : s.size ≤ 1099511627776) :
    Calls Tryd.prog 91 #[.string s] w fun e w' => e = .returned (.agg (sumA s)) ∧ Ext w w' := by
  have e1 : (min 3 (s.size : Int)).toNat = min 3 s.size := by omega
  have e2 : (max 0 ((s.size : Int) - 3)).toNat = s.size - 3 := by omega
  have E1 := Lib.hid e1
  have E2 := Lib.hid e2
  clear e1 e2
  go_enter Tryd.func91, Tryd.ntmps91
  go_upto_region 1 with fail
  refine wp_gen (fun W => Ext w W ∧ W.heap[w.heap.size]? = some (.cells #[.int .i64 0, .int .i64 0, .int .i64 0, .int .i64 0, .string { data := #[] }, .string { data := #[] }] 57 (0, 0))) ⟨(Ext.refl w).alloc _, alloc_blk _ _⟩ (fun w0 hw0 => ?_)
  obtain ⟨hx0, hb0⟩ := hw0
  have hsz0 := blk_lt hb0
  have f1 : (0 : Int) ≤ min 3 (s.size : Int) := by omega
  have f2 : min 3 (s.size : Int) ≤ (s.size : Int) := by omega
  have f3 : (0 : Int) ≤ max 0 ((s.size : Int) - 3) := by omega
  have f4 : max 0 ((s.size : Int) - 3) ≤ (s.size : Int) := by omega
  have f5 : IntKind.i64.wrap ((s.size : Int) - 3) = (s.size : Int) - 3 := IntWalk.i64_in _ (by omega)
  refine wp_lex [true, true, true, true, true, true, true, true, true, true, true, true, true, true, true, true, true, true, false] (by kernel_rfl) (by kernel_rfl) ?_
  repeat first
    | refine wpG_move (by rfl) (by simp only [Act.eval, Array.getD_eq_getD_getElem?, List.getElem?_toArray, List.getElem?_cons_succ, List.getElem?_cons_zero, Option.getD_some]; rfl) (by simp only [Act.put, List.setIfInBounds_toArray, List.set_cons_succ, List.set_cons_zero]; rfl) ?_
    | refine wpG_assign (by rfl) (by simp only [Act.eval, Array.getD_eq_getD_getElem?, List.getElem?_toArray, List.getElem?_cons_succ, List.getElem?_cons_zero, Option.getD_some]; rfl) (by simp only [Act.put, List.setIfInBounds_toArray, List.set_cons_succ, List.set_cons_zero]; rfl) ?_
    | refine wpG_call (by rfl) (fun w' hx => (by go_simp; first | exact rfl | exact ⟨rfl, rfl⟩)) (fun w' hx => (by first | exact c_Count s w' hs | exact c_Units s w' hs)) (by simp only [Act.put, List.setIfInBounds_toArray, List.set_cons_succ, List.set_cons_zero]; rfl) ?_
    | refine wpG_val (by rfl) (fun w' hx => (by go_simp; exact rfl)) (by simp only [Act.put, List.setIfInBounds_toArray, List.set_cons_succ, List.set_cons_zero]; rfl) ?_
  clear f5 f1 f2 f3 f4
  refine wpG_do (by rfl) (fun w2 hx2 K hK => ?_)
  go_wp2_with fail
  have hle : w0.heap.size ≤ w2.heap.size := hx2.sz
  refine ⟨(Ext.refl _).alloc _, wpG_end (fun w3 hx3 => ?_)⟩
  have hb := hx3.blk (alloc_blk _ _)
  have hc := cell_blk hb
  have hf := frz_blk hb
  go_wp2_with fail
  refine gQ_gen (fun W => Ext w0 W ∧ W.heap[w2.heap.size]? = some (.cells #[.int .i64 (s.size : Nat), .int .i64 (nRunes s : Nat), .int .i64 (nUnits s : Nat), .int .i64 ((0 : Nat) : Int), .string (hdB s), .string (tlB s)] 57 (0, 0))) ?_ (fun W hW => ?_)
  · refine ⟨?_, ?_⟩
    · repeat refine Ext.setCell ?_ hle _
      exact hx2.trans (((Ext.refl w2).alloc _).trans hx3)
    · rw [E1.out, E2.out]
      exact set6_blk hb _ _ _ _ _ _
  · obtain ⟨hx, hb⟩ := hW
    go_wp2_with fail
    go_loopw [25] (fun i W => ∃ k : Nat, i = .int .i64 k ∧ k ≤ s.size ∧ Ext w0 W ∧ W.heap[w2.heap.size]? = some (.cells #[.int .i64 (s.size : Nat), .int .i64 (nRunes s : Nat), .int .i64 (nUnits s : Nat), .int .i64 (brkN s k : Nat), .string (hdB s), .string (tlB s)] 57 (0, 0))) (fun i _ => s.size - (intOf i).toNat)
    case atStart => exact ⟨0, rfl, by omega, hx, hb⟩
    case round =>
      obtain ⟨k, rfl, h1, hx5, hb5⟩ := hrel
      have hc := cell_blk hb5
      have hf := frz_blk hb5
      by_cases hk : k < s.size
      · have h2 := brkN_step s k hk
        have h3 := brkN_le s k
        by_cases h10 : (s[k].toNat : Int) = 10
        · rw [if_pos h10] at h2
          have H2 := Lib.hid h2
          clear h2
          go_wp2
          go_roundw
          case rel =>
            refine ⟨k + 1, by go_num, by omega, Ext.setCell hx5 hle _, ?_⟩
            rw [H2.out]
            exact set_blk hb5 3 _
          case measure => simp [intOf]; omega
        · rw [if_neg h10] at h2
          have H2 := Lib.hid h2
          clear h2
          go_wp2
          go_roundw
          case rel =>
            refine ⟨k + 1, by go_num, by omega, hx5, ?_⟩
            rw [H2.out]
            exact hb5
          case measure => simp [intOf]; omega
      · have he := brkN_end s k (by omega)
        rw [he] at hb5
        clear he hc
        have hc := cell_blk hb5
        have hb6 := hx5.blk hb0
        have hc6 := cell_blk hb6
        have hf6 := frz_blk hb6
        go_wp2_with fail
        refine Q_gen (fun W => Ext w W ∧ W.heap[w.heap.size]? = some (.cells (sumA s) 57 (0, 0))) ⟨?_, ?_⟩ (fun W hW => ?_)
        · repeat refine Ext.setCell ?_ (Nat.le_refl _) _
          exact hx0.trans hx5
        · exact set6_blk hb6 _ _ _ _ _ _
        · obtain ⟨hx7, hb7⟩ := hW
          have hc7 := cell_blk hb7
          exact bodyPost_ret (v := .agg (sumA s)) (by simp [results, Tryd.results91, go_sem, hc7, sumA]) rfl ⟨rfl, hx7⟩
end Go.Proofs.YtohpekbooapcjaaDoor
