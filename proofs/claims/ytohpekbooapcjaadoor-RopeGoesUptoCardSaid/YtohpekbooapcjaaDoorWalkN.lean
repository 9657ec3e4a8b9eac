/-
  What is known of the text ahead of a place.
-/
import Derived.Test.YtohpekbooapcjaaDoorWalkM
namespace Go.Proofs.YtohpekbooapcjaaDoor
open Go.RowKit Go.Rp

set_option maxRecDepth 100000 in
set_option maxHeartbeats 1000000 in
theorem c_leaf_ahead (s : ByteArray) (k : Nat) (w : World) (hs : s.size ≤ 256) (hk : k ≤ s.size) : Calls Tryd.prog 85 #[.string s, .int .i64 (k : Nat)] w fun e w' => e = .returned (.agg (sumA (s.extract 0 k))) ∧ Ext w w' := by
  have z : (s.extract 0 k).size ≤ 1099511627776 := by rw [ByteArray.size_extract]; omega
  go_enter Tryd.func85, Tryd.ntmps85
  go_upto_region 1 with fail
  refine wp_gen (fun W => Ext w W ∧ W.heap[w.heap.size]? = some (.cells #[.int .i64 0, .int .i64 0, .int .i64 0, .int .i64 0, .string { data := #[] }, .string { data := #[] }] 57 (0, 0))) ⟨(Ext.refl w).alloc _, alloc_blk _ _⟩ (fun w0 hw0 => ?_)
  obtain ⟨hx0, hb0⟩ := hw0
  go_wp2_with fail
  refine (c_of (s.extract 0 k) _ z).mono ?_
  rintro e w1 ⟨rfl, hx1⟩
  have hb1 := hx1.blk hb0
  have hc1 := cell_blk hb1
  have hf1 := frz_blk hb1
  clear hb0
  unfold sumA
  go_wp2_with fail
  refine Q_gen (fun W => Ext w W ∧ W.heap[w.heap.size]? = some (.cells (sumA (s.extract 0 k)) 57 (0, 0))) ⟨?_, ?_⟩ (fun W hW => ?_)
  · repeat refine Ext.setCell ?_ (Nat.le_refl _) _
    exact hx0.trans hx1
  · refine (set6_blk hb1 _ _ _ _ _ _).trans ?_
    unfold sumA
    rw [ByteArray.size_extract, show min k s.size - 0 = k from by omega]
  · obtain ⟨hx7, hb7⟩ := hW
    have hc7 := cell_blk hb7
    exact bodyPost_ret (v := .agg (sumA (s.extract 0 k))) (by simp [results, Tryd.results85, go_sem, hc7, sumA]) rfl ⟨rfl, hx7⟩

theorem i_leaf_ahead (s : ByteArray) (n : Int) (w : World) : (invoke (.fn (.method "kerf/rope.ahead") #[]) #[.iface 92 (.string s), .int .i64 n]).run Tryd.prog w = .ok (.enter 85 #[.string s, .int .i64 n]) w := by kernel_rfl
theorem i_branch_ahead (s : Addr) (n : Int) (w : World) : (invoke (.fn (.method "kerf/rope.ahead") #[]) #[.iface 94 (.pointer (some s)), .int .i64 n]).run Tryd.prog w = .ok (.enter 92 #[.pointer (some s), .int .i64 n]) w := by kernel_rfl

def CanAhead (w : World) (v : Value) (s : ByteArray) : Prop :=
  ∀ k, k ≤ s.size → ∃ f args, (∀ w', (invoke (.fn (.method "kerf/rope.ahead") #[]) #[v, .int .i64 (k : Nat)]).run Tryd.prog w' = .ok (.enter f args) w') ∧ ∀ w', Ext w w' → Calls Tryd.prog f args w' fun e w'' => e = .returned (.agg (sumA (s.extract 0 k))) ∧ Ext w' w''

theorem upon_ahead {o : Oper} {a : Act} {K : Act → World → Prop} {R : Exit → Act → World → Prop} {w0 w : World} {v : Value} {s : ByteArray} {n : Int} (k : Nat) (h : CanAhead w0 v s) (hx : Ext w0 w) (hk : k ≤ s.size) (hn : n = (k : Nat))
    (hK : ∀ w', Ext w w' → K (a.put o.dst (.agg (sumA (s.extract 0 k)))) w') :
    o.upon Tryd.prog a K R ((inv "kerf/rope.ahead" v #[.int .i64 n]).run Tryd.prog w) := by
  subst hn
  obtain ⟨f, args, hr, hc⟩ := h k hk
  unfold inv
  have e := hr w
  rw [show (#[v] ++ #[.int .i64 (k : Nat)] : Array Value) = #[v, .int .i64 (k : Nat)] from by simp, e, Oper.upon_enter]
  refine (hc w hx).mono ?_
  rintro e w' ⟨rfl, h5⟩
  exact hK w' h5
theorem wpG_ahead {ops : Array Oper} {Q : Exit → Act → World → Prop} {a a' : Act} {w w0 : World} {dst : Option Tmp} {ty : TypeId} {pos : String} {after : Array Edge} {rest : List Oper} {bs : List Bool} {v : Value} {s : ByteArray} {recv x : Operand} {n : Int} (k : Nat)
    (hv : a.eval recv = v) (hx : a.eval x = .int .i64 n) (hn : n = (k : Nat)) (h : CanAhead w0 v s) (he : Ext w0 w) (hk : k ≤ s.size) (ha : a.put dst (.agg (sumA (s.extract 0 k))) = a') (hK : wpG Tryd.prog ops Q bs rest a' w) :
    wpG Tryd.prog ops Q (true :: bs) (⟨dst, .call { callee := .invoke recv "kerf/rope.ahead", args := #[x], argTypes := #[3] }, ty, pos, after, none⟩ :: rest) a w := by
  subst hn
  obtain ⟨f, args, hr, hc⟩ := h k hk
  exact wpG_call rfl (fun w' _ => by rw [exec_invoke, hv, show (#[v] ++ Array.map a.eval #[x] : Array Value) = #[v, .int .i64 (k : Nat)] from by simp [hx]]; exact hr w') (fun w' hx2 => hc w' (he.trans hx2)) ha hK

set_option maxRecDepth 100000 in
set_option maxHeartbeats 2000000 in
theorem c_branch_ahead (blk : Nat) (vx vy : Value) (x y : T) (k : Nat) (w : World) (hX : IsNode w vx x) (hY : IsNode w vy y) (hd : x.deep ≤ y.deep + 1 ∧ y.deep ≤ x.deep + 1)
    (hc : w.heap[blk]? = some (.cells (brA vx vy x y) 96 (0, 0)))
    (hs : x.text.size + y.text.size ≤ 1048576) (hk : k ≤ x.text.size + y.text.size) (cX : CanAhead w vx x.text) (cY : CanAhead w vy y.text) :
    Calls Tryd.prog 92 #[.pointer (some ⟨blk, 0, none⟩), .int .i64 (k : Nat)] w fun e w' => e = .returned (.agg (sumA ((x.text ++ y.text).extract 0 k))) ∧ Ext w w' := by
  obtain ⟨Tx, xx, rfl⟩ := hX.iface
  obtain ⟨Ty, xy, rfl⟩ := hY.iface
  go_enter Tryd.func92, Tryd.ntmps92
  go_upto_region 1 with fail
  refine wp_gen (fun W => Ext w W ∧ W.heap[w.heap.size]? = some (.cells #[.int .i64 0, .int .i64 0, .int .i64 0, .int .i64 0, .string { data := #[] }, .string { data := #[] }] 57 (0, 0))) ⟨(Ext.refl w).alloc _, alloc_blk _ _⟩ (fun w0 hw0 => ?_)
  obtain ⟨hx0, hb0⟩ := hw0
  have hc0 := cell_blk (hx0.blk hc)
  unfold brA at hc0
  go_upto_region 2 with (refine upon_sum (hX.mono hx0) (by omega) (fun w1 hx1 => ?_); unfold sumA; go_simp)
  refine wp_gen (fun W => Ext w0 W ∧ W.heap[w1.heap.size]? = some (.cells #[.int .i64 (x.text.size : Nat), .int .i64 (nRunes x.text : Nat), .int .i64 (nUnits x.text : Nat), .int .i64 (nBreaks x.text : Nat), .string (hdB x.text), .string (tlB x.text)] 57 (0, 0))) ⟨hx1.alloc _, alloc_blk _ _⟩ (fun w2 hw2 => ?_)
  obtain ⟨hx2, hb2⟩ := hw2
  have hc2 := cell_blk hb2
  have hc0 := cell_blk ((hx0.trans hx2).blk hc)
  unfold brA at hc0
  by_cases hle : k ≤ x.text.size
  · go_wp2_with fail
    refine upon_ahead k cX (hx0.trans hx2) hle rfl (fun w3 hx3 => ?_)
    have hb3 := (hx2.trans hx3).blk hb0
    have hc3 := cell_blk hb3
    have hf3 := frz_blk hb3
    clear hc2 hc0
    unfold sumA
    go_simp
    go_wp2_with fail
    refine Q_gen (fun W => Ext w W ∧ W.heap[w.heap.size]? = some (.cells (sumA (x.text.extract 0 k)) 57 (0, 0))) ⟨?_, ?_⟩ (fun W hW => ?_)
    · repeat refine Ext.setCell ?_ (Nat.le_refl _) _
      exact hx0.trans (hx2.trans hx3)
    · refine (set6_blk hb3 _ _ _ _ _ _).trans ?_
      unfold sumA
      try rw [ByteArray.size_extract, show min k x.text.size - 0 = k from by omega]
    · obtain ⟨hx7, hb7⟩ := hW
      have hc7 := cell_blk hb7
      rw [cut_1 _ _ _ hle]
      exact bodyPost_ret (v := .agg (sumA (x.text.extract 0 k))) (by simp [results, Tryd.results92, go_sem, hc7, sumA]) rfl ⟨rfl, hx7⟩
  · have hlt : x.text.size < k := by omega
    go_wp2_with fail
    have q2 : ∀ w', Ext w2 w' → ∀ i, w'.cell? ⟨w1.heap.size, i, none⟩ = _ := fun w' h i => cell_blk (h.blk hb2) i
    have qc : ∀ w', Ext w2 w' → ∀ i, w'.cell? ⟨blk, i, none⟩ = _ := fun w' h i => cell_blk ((hx0.trans (hx2.trans h)).blk hc) i
    unfold brA at qc
    clear hc2 hc0
    refine wp_lex [true, true, true, true, true, true, true, true, true, true, true] (by kernel_rfl) (by kernel_rfl) ?_
    repeat first
      | refine wpG_move (by rfl) (by simp only [Act.eval, Array.getD_eq_getD_getElem?, List.getElem?_toArray, List.getElem?_cons_succ, List.getElem?_cons_zero, Option.getD_some]; try rfl) (by simp only [Act.put, List.setIfInBounds_toArray, List.set_cons_succ, List.set_cons_zero]; rfl) ?_
      | refine wpG_assign (by rfl) (by simp only [Act.eval, Array.getD_eq_getD_getElem?, List.getElem?_toArray, List.getElem?_cons_succ, List.getElem?_cons_zero, Option.getD_some]; try rfl) (by simp only [Act.put, List.setIfInBounds_toArray, List.set_cons_succ, List.set_cons_zero]; rfl) ?_
      | refine wpG_val (by rfl) (fun w' hx => (by go_simp; first | (go_bits; first | exact rfl | exact ⟨by omega, rfl⟩) | exact rfl | exact (if_neg (by omega)).trans rfl | exact ⟨by omega, rfl⟩)) (by simp only [Act.put, List.setIfInBounds_toArray, List.set_cons_succ, List.set_cons_zero]; rfl) ?_
      | refine wpG_no (by rfl) (by simp only [Act.put, List.setIfInBounds_toArray, List.set_cons_succ, List.set_cons_zero]; rfl) ?_
    have z : (y.text.extract 0 (k - x.text.size)).size ≤ 1099511627776 := by rw [ByteArray.size_extract]; omega
    refine wpG_ahead (k - x.text.size) (by simp only [Act.eval, Array.getD_eq_getD_getElem?, List.getElem?_toArray, List.getElem?_cons_succ, List.getElem?_cons_zero, Option.getD_some]; try rfl) (by simp only [Act.eval, Array.getD_eq_getD_getElem?, List.getElem?_toArray, List.getElem?_cons_succ, List.getElem?_cons_zero, Option.getD_some]; try rfl) (by omega) cY (hx0.trans hx2) (by omega) (by simp only [Act.put, List.setIfInBounds_toArray, List.set_cons_succ, List.set_cons_zero]; rfl) ?_
    refine wpG_call (by rfl) (fun w' hx => (by go_simp; first | exact rfl | exact ⟨rfl, rfl⟩)) (fun w' hx => c_add x.text (y.text.extract 0 (k - x.text.size)) w' (by omega) z) (by simp only [Act.put, List.setIfInBounds_toArray, List.set_cons_succ, List.set_cons_zero]; rfl) ?_
    refine wpG_end (fun w4 hx4 => ?_)
    have hb4 := (hx2.trans hx4).blk hb0
    have hc4 := cell_blk hb4
    have hf4 := frz_blk hb4
    clear q2 qc
    have es : ∃ n : Int, sumA (x.text ++ y.text.extract 0 (k - x.text.size)) = #[.int .i64 n, .int .i64 (nRunes (x.text ++ y.text.extract 0 (k - x.text.size)) : Nat), .int .i64 (nUnits (x.text ++ y.text.extract 0 (k - x.text.size)) : Nat), .int .i64 (nBreaks (x.text ++ y.text.extract 0 (k - x.text.size)) : Nat), .string (hdB (x.text ++ y.text.extract 0 (k - x.text.size))), .string (tlB (x.text ++ y.text.extract 0 (k - x.text.size)))] := ⟨_, rfl⟩
    obtain ⟨n, es⟩ := es
    have ES := Lib.hid es
    rw [es]
    clear es
    go_wp2_with fail
    refine gQ_gen (fun W => Ext w W ∧ W.heap[w.heap.size]? = some (.cells (sumA (x.text ++ y.text.extract 0 (k - x.text.size))) 57 (0, 0))) ⟨?_, ?_⟩ (fun W hW => ?_)
    · repeat refine Ext.setCell ?_ (Nat.le_refl _) _
      exact hx0.trans (hx2.trans hx4)
    · rw [ES.out]
      exact set6_blk hb4 _ _ _ _ _ _
    · obtain ⟨hx7, hb7⟩ := hW
      rw [ES.out] at hb7
      have hc7 := cell_blk hb7
      go_wp2_with fail
      rw [cut_3 _ _ _ (by omega)]
      exact bodyPost_ret (v := .agg (sumA (x.text ++ y.text.extract 0 (k - x.text.size)))) (by rw [ES.out]; simp [results, Tryd.results92, go_sem, hc7]) rfl ⟨rfl, hx7⟩

theorem can_ahead {w : World} {v : Value} {t : T} (hn : IsNode w v t) (hs : t.text.size ≤ 1048576) : CanAhead w v t.text := by
  induction hn with
  | leaf s h1 h2 => exact fun k hk => ⟨_, _, i_leaf_ahead s _, fun w' _ => c_leaf_ahead s k w' h2 hk⟩
  | br blk va vb a b ha hb hd hc iha ihb =>
    simp only [T.text, ByteArray.size_append] at hs
    intro k hk
    simp only [T.text, ByteArray.size_append] at hk
    refine ⟨_, _, i_branch_ahead _ _, fun w' hx => c_branch_ahead blk va vb a b k w' (ha.mono hx) (hb.mono hx) hd (hx.blk hc) hs hk ?_ ?_⟩
    · intro j hj
      obtain ⟨f, args, h1, h2⟩ := iha (by omega) j hj
      exact ⟨f, args, h1, fun w2 hx2 => h2 w2 (hx.trans hx2)⟩
    · intro j hj
      obtain ⟨f, args, h1, h2⟩ := ihb (by omega) j hj
      exact ⟨f, args, h1, fun w2 hx2 => h2 w2 (hx.trans hx2)⟩

/-- A place, moved into the text. -/
def clampN (n : Int) (s : ByteArray) : Nat := (min (max n 0) (s.size : Int)).toNat
set_option maxRecDepth 100000 in
set_option maxHeartbeats 1000000 in
theorem c_LineOf (v : Value) (o : Option T) (n : Int) (w : World) (h : IsRope w v o) (hs : (txt o).size ≤ 1048576) :
    Calls Tryd.prog 16 #[v, .int .i64 n] w fun e w' => e = .returned (.int .i64 (nBreaks ((txt o).extract 0 (clampN n (txt o))) : Nat)) ∧ Ext w w' := by
  have hk : clampN n (txt o) ≤ (txt o).size := by unfold clampN; omega
  have hk2 : min (max n 0) ((txt o).size : Int) = (clampN n (txt o) : Nat) := by unfold clampN; omega
  generalize clampN n (txt o) = k at hk hk2
  have HK := Lib.hid hk2
  clear hk2
  go_enter Tryd.func16, Tryd.ntmps16
  go_wp2_with fail
  refine (c_Len v o _ h (by omega)).mono ?_
  rintro e w1 ⟨rfl, hx1⟩
  go_wp2_with fail
  rw [HK.out]
  obtain ⟨na, hna, ca⟩ := node_of h hx1
  refine ca.mono ?_
  rintro e w3 ⟨rfl, rfl⟩
  clear ca
  cases h with
  | nil =>
    obtain rfl : na = .nilIface := hna
    go_wp2_with fail
    have hk0 : k = 0 := by simpa [txt] using hk
    subst hk0
    exact ret_one rfl rfl rfl ⟨rfl, hx1⟩
  | mk b n' o hn' hc =>
    have hcc := cell_blk (hx1.blk hc)
    rcases hn'.iface with ⟨rfl, rfl⟩ | ⟨T0, x0, t0, rfl, rfl, hn0⟩
    · have hn1 : na = .nilIface := hna
      subst hn1
      go_wp2_with fail
      have hk0 : k = 0 := by simpa [txt] using hk
      subst hk0
      exact ret_one rfl rfl rfl ⟨rfl, hx1⟩
    · obtain ⟨T1, x1, rfl⟩ := (show IsNode _ na t0 from hna).iface
      go_wp2_with fail
      refine upon_ahead k (can_ahead hn0 hs) hx1 hk rfl (fun w5 hx5 => ?_)
      unfold sumA
      go_simp
      go_wp2_with fail
      exact ret_one rfl rfl rfl ⟨rfl, hx1.trans hx5⟩
end Go.Proofs.YtohpekbooapcjaaDoor
