/-
  A block laid among the unlike ones.
-/
import Derived.Great.BuildSlice
import Derived.Test.YtbbemipidkhmfaaMaps
namespace Go.Proofs.Ytbbemipidkhmfaa
open Go.RowKit Go.Maps

/-- The cells of a row of blocks. -/
def rowU (U : List (List Int)) : List Value := U.flatMap fun b => b.map (Value.int .u8)
theorem rowU_snoc (U : List (List Int)) (b : List Int) : rowU (U ++ [b]) = rowU U ++ b.map (Value.int .u8) := by simp [rowU]
/-- Blocks with their numbers, as a map's entries. -/
def ent (U : List (List Int)) : List (Value × Value) := U.zipIdx.map fun p => (.agg (u8s p.1), .int .i64 ((p.2 : Nat) : Int))
theorem ent_snoc (U : List (List Int)) (b : List Int) : ent (U ++ [b]) = ent U ++ [(.agg (u8s b), .int .i64 ((U.length : Nat) : Int))] := by simp [ent, List.zipIdx_append]
theorem u8s_inj {a b : List Int} (h : u8s a = u8s b) : a = b := by
  have h' : a.map (Value.int .u8) = b.map (Value.int .u8) := by simpa [u8s] using h
  induction a generalizing b with
  | nil => cases b with
    | nil => rfl
    | cons y t => simp at h'
  | cons x s ih => cases b with
    | nil => simp at h'
    | cons y t =>
      simp only [List.map_cons, List.cons.injEq, Value.int.injEq, true_and] at h'
      obtain ⟨rfl, h2⟩ := h'
      rw [ih (by simp [u8s, h2]) h2]
theorem ent_mem {U : List (List Int)} {k v : Value} (h : (k, v) ∈ ent U) : ∃ (j : Nat) (hj : j < U.length), k = .agg (u8s U[j]) ∧ v = .int .i64 ((j : Nat) : Int) := by
  obtain ⟨⟨b, j⟩, hp, e⟩ := List.mem_map.1 h
  simp only [Prod.mk.injEq] at e
  obtain ⟨rfl, rfl⟩ := e
  have := List.mem_zipIdx' hp
  obtain ⟨hj, hb⟩ := this
  exact ⟨j, hj, by rw [hb], rfl⟩
theorem ent_of {U : List (List Int)} {j : Nat} (hj : j < U.length) : (.agg (u8s U[j]), .int .i64 ((j : Nat) : Int)) ∈ ent U :=
  List.mem_map.2 ⟨(U[j], j), by rw [List.mem_zipIdx_iff_getElem?]; simp [hj], rfl⟩

/-- Blocks of classes. -/
def OkB (b : List Int) : Prop := b.length = 128 ∧ ∀ x ∈ b, 0 ≤ x ∧ x ≤ 255
/-- A table that is being made: its unlike blocks, and the map that finds them. -/
structure AddSt (W : World) (n₀ T tb mf fb : Nat) (rest : Int) (ofV : Value) (U : List (List Int)) : Prop where
  bt : Boxed W tb 27 (.pointer (some ⟨T, 0, none⟩))
  bf : Boxed W fb 109 (.map (some mf))
  un : ∃ unV, W.heap[T]? = some (.cells #[.int .i64 rest, ofV, unV] 80) ∧ W.ownsRow n₀ 83 128 unV U.length (rowU U)
  mp : MapIs W mf (ent U)
  ok : ∀ b ∈ U, OkB b
  le : U.length ≤ 8704
  n0 : n₀ ≤ T ∧ n₀ ≤ mf ∧ n₀ ≤ W.heap.size
theorem ent_keys {U : List (List Int)} (h : ∀ b ∈ U, OkB b) : ∀ p ∈ ent U, ∃ l, keyOf Try.prog 83 p.1 = some l := by
  rintro ⟨k, v⟩ hp
  obtain ⟨j, hj, rfl, rfl⟩ := ent_mem hp
  have := h U[j] (List.getElem_mem hj)
  exact key83 _ this.1 this.2

theorem cells_load83 {w : World} {b : Nat} {l : List Int} (h : ∀ i (hi : i < l.length), w.cell? ⟨b, i, none⟩ = some (.int .u8 l[i])) (hl : l.length = 128) : (Instr.loadAt 83 (.pointer (some ⟨b, 0, none⟩))).run Try.prog w = .ok (.agg (u8s l)) w := by
  have := run_loadCells_list (P := Try.prog) w ⟨b, 0, none⟩ (u8s l).toList (fun j v hv => by
    have hadd : (⟨b, 0, none⟩ : Addr).add j = ⟨b, j, none⟩ := by unfold Addr.add; split <;> simp_all
    have hj : j < l.length := by
      have := (List.getElem?_eq_some_iff.1 hv).1
      simpa [u8s] using this
    rw [hadd, h j hj]
    simpa [u8s, hj] using hv)
  have hsz : (sizeOf 83).run Try.prog w = .ok 128 w := Try.sizeOf83 w
  have hag : (isAgg 83).run Try.prog w = .ok true w := Try.isAgg83 w
  have hlen : (u8s l).toList.length = 128 := by simp [u8s, hl]
  rw [hlen] at this
  simp [Instr.loadAt, Instr.sureAddr, Go.loadVar, hag, hsz, this, Result.andThen]
/-- A block's classes out of a variable that keeps, where the order is open. -/
theorem wpG_load83 {S : Addr → Prop} {ops : Array Oper} {Q : Exit → Act → World → Prop} {a a' : Act} {w : World} {dst : Option Tmp} {ty : TypeId} {pos : String} {after : Array Edge} {g : Option (Nat × Bool)} {rest : List Oper} {bs : List Bool} {x : Operand} {b : Nat} {l : List Int}
    (hg : Region.wanted ⟨dst, .load 83 x, ty, pos, after, g⟩ (yielded ops a.tmps) = true) (hx : a.eval x = .pointer (some ⟨b, 0, none⟩)) (h : Holds83 w b l) (hl : l.length = 128) (hS : ∀ i, S ⟨b, i, none⟩)
    (ha : a.put dst (.agg (u8s l)) = a') (hK : wpG S Try.prog ops Q bs rest a' w) : wpG S Try.prog ops Q (true :: bs) (⟨dst, .load 83 x, ty, pos, after, g⟩ :: rest) a w := by
  refine wpG_val hg (fun w' hE => ?_) ha hK
  have := cells_load83 (w := w') (fun i hi => hE.cell (hS i) (h.cell i hi)) hl
  simp [execOp, hx, this, Result.andThen]
theorem info83p : (Try.prog.info? 83).map (fun i => (i.zero, i.size, i.bytes)) = some (some (.agg (u8s (rep 0))), 128, 128) := by kernel_rfl
theorem foldl_set : ∀ (l : List Value) (k : Nat) (cs : Array Value), k + l.length ≤ cs.size → ∀ i : Nat, ((l.zipIdx k).foldl (fun cs x => cs.setIfInBounds (0 + x.2) x.1) cs)[i]? = if k ≤ i ∧ i < k + l.length then l[i - k]? else cs[i]?
  | [], k, cs, _, i => by
    rw [if_neg (by simp)]
    rfl
  | v :: l, k, cs, h, i => by
    simp only [List.length_cons] at h ⊢
    rw [List.zipIdx_cons, List.foldl_cons, foldl_set l (k + 1) _ (by simp; omega)]
    by_cases h1 : k = i
    · subst h1
      rw [if_neg (by omega), if_pos (by omega)]
      simp only [Nat.zero_add, Nat.sub_self, List.getElem?_cons_zero]
      rw [Array.getElem?_setIfInBounds, if_pos rfl, if_pos (by omega)]
    · by_cases h2 : k + 1 ≤ i ∧ i < k + 1 + l.length
      · rw [if_pos h2, if_pos (by omega)]
        obtain ⟨j, rfl⟩ : ∃ j, i = k + 1 + j := ⟨i - (k + 1), by omega⟩
        rw [show k + 1 + j - k = j + 1 from by omega, show k + 1 + j - (k + 1) = j from by omega]
        rfl
      · rw [if_neg h2, if_neg (by omega)]
        simp only [Nat.zero_add]
        rw [Array.getElem?_setIfInBounds, if_neg h1]
theorem fill_one {size : Nat} {cells : Array Value} {v : Value} (hs : v.cells.size = size) (hc : cells.size = size) : Instr.fill (fun i => some (i * size, size)) cells [(0, v)] = some v.cells := by
  unfold Instr.fill
  simp only [Nat.zero_mul]
  rw [if_neg (by simp [hs, hc])]
  unfold Instr.fill
  congr 1
  rw [← Array.foldl_toList, Array.toList_zipIdx]
  apply Array.ext_getElem?
  intro i
  rw [foldl_set v.cells.toList 0 cells (by simp; omega)]
  by_cases h : i < v.cells.size
  · rw [if_pos (by simp; omega)]
    simp
  · rw [if_neg (by simp; omega), Array.getElem?_eq_none (by omega), Array.getElem?_eq_none (by omega)]
/-- A slice of one block. -/
theorem wp_build83 {o : Oper} {a : Act} {w : World} {K : Act → World → Prop} {Q : Exit → Act → World → Prop} (x : Operand) (ho : o.op = .buildSlice 78 1 #[(0, x)]) {l : List Int} (hx : a.eval x = .agg (u8s l)) (hl : l.length = 128)
    (h : K (a.put o.dst (.slice (some ⟨w.heap.size, 0, none⟩) 1 1)) (w.alloc (.cells (u8s l) 83))) : o.wp Try.prog a w K Q := by
  cases hie : Try.prog.info? 83 with
  | none => have := info83p; simp [hie] at this
  | some ie =>
    have hp := info83p
    simp only [hie, Option.map_some, Option.some.injEq, Prod.mk.injEq] at hp
    obtain ⟨hz, hs, _⟩ := hp
    refine wp_buildSlice 78 83 1 #[(0, x)] ho (u8s l) ie _ Try.underlying78 hie hz (by rw [hs]; omega) (by rw [hs]; omega) ?_ h
    rw [hs]
    simp only [List.map_toArray, List.map_cons, List.map_nil, hx]
    have e : (Value.agg (u8s l)).cells = u8s l := rfl
    rw [← e]
    exact fill_one (by show (u8s l).size = 128; rw [u8s_size, hl]) (by simp)
theorem grownBy_setAt (w : World) (q : Addr) (v : Value) : w.grownBy (w.setCell q v) (some q.block) :=
  ⟨rfl, rfl, rfl, (KeepsWalks.setCell w q v).size, fun k _ hk => Below.heap_setCell _ _ _ k (fun e => hk (by rw [e]))⟩
theorem row_ne {w : World} {n₀ size n k : Nat} {e t : TypeId} {v : Value} {xs : List Value} {c : Array Value} {f : Nat × Nat} (h : w.ownsRow n₀ e size v n xs) (hk : w.heap[k]? = some (.cells c t f)) (hte : t ≠ e) : some k ≠ v.ownBlock := by
  intro e2
  rcases h.2 with ⟨h3, _⟩ | ⟨g, c', cur, h3, _, hgb, _⟩
  · rw [h3] at e2; simp [Value.ownBlock] at e2
  · rw [h3] at e2
    obtain rfl : k = g := by simpa [Value.ownBlock] using e2
    rw [hgb] at hk
    simp at hk
    exact hte hk.2.1.symm
/-- What laying a block leaves as it was. -/
def KeepA (T mf : Nat) (W W' : World) : Prop := W.heap.size ≤ W'.heap.size ∧ ∀ k o, W.heap[k]? = some o → k ≠ T → k ≠ mf → (∀ u, W.cell? ⟨T, 2, none⟩ = some u → some k ≠ u.ownBlock) → W'.heap[k]? = some o

set_option maxRecDepth 100000 in
set_option maxHeartbeats 4000000 in
theorem c_add (b : List Int) (W : World) (n₀ T tb mf fb : Nat) (rest : Int) (ofV : Value) (U : List (List Int)) (hb : OkB b) (hU : U.length < 8704) (h : AddSt W n₀ T tb mf fb rest ofV U) :
    Calls Try.prog 73 #[.agg (u8s b), .pointer (some ⟨fb, 0, none⟩), .pointer (some ⟨tb, 0, none⟩)] W fun e W' => ∃ (k : Nat) (U' : List (List Int)), e = .returned (.int .i64 (k : Nat)) ∧ AddSt W' n₀ T tb mf fb rest ofV U' ∧ U'[k]? = some b ∧ (U' = U ∧ b ∈ U ∨ U' = U ++ [b] ∧ b ∉ U) ∧ KeepA T mf W W' ∧ Below n₀ W W' := by
  obtain ⟨hb1, hb2⟩ := hb
  obtain ⟨bt, bf, ⟨unV, hT, hrow⟩, mp, hok, hle, hn0⟩ := h
  obtain ⟨lk, hkey⟩ := key83 b hb1 hb2
  obtain ⟨i0, hi, hz0, hz1, hz2⟩ := info_parts info83p
  obtain ⟨p, cap, rfl⟩ : ∃ p cap, unV = .slice p U.length cap := by
    rcases hrow.2 with ⟨h1, h2⟩ | ⟨g, cap, _, h1, _⟩
    · exact ⟨none, 0, by rw [h1, h2]⟩
    · exact ⟨_, cap, h1⟩
  have hkeys := Lib.hid (ent_keys hok)
  have HOK := Lib.hid hok
  have HB2 := Lib.hid hb2
  have g1 : Holds83 (W.alloc (.cells (u8s b) 83)) W.heap.size b := World.alloc_heap_new W _
  have hx1 : Ext W (W.alloc (.cells (u8s b) 83)) := (Ext.refl W).alloc _
  clear hok hb2
  have bf1 := bf.ext hx1
  have bt1 := bt.ext hx1
  have hT1 := hx1.blk hT
  have hrow1 := ownsRow_ext hrow hx1
  have mp1 := mp.ext hx1
  have cf1 := bf1.cell
  have ct1 := bt1.cell
  have cu1 := cell_blk hT1 2
  simp only [List.getElem?_toArray, List.getElem?_cons_succ, List.getElem?_cons_zero] at cu1
  go_enter Try.func73, Try.ntmps73
  go_wp2_with (first | refine wpList_load83 rfl (.tmp 3) rfl rfl g1 hb1 ?_ | (refine wpList_lookup_is (by rfl) (.tmp 8) (.tmp 9) (by rfl) keyed83 Try.underlying109 Try.zeroValue3 (by rfl) (key := .agg (u8s b)) (by rfl) mp1 hkeys.out hkey ?_; rintro v bb (⟨rfl, hmem⟩ | ⟨rfl, rfl, hne⟩)))
  · obtain ⟨j, hj, e1, rfl⟩ := ent_mem hmem
    have e2 : b = U[j] := u8s_inj (by injection e1)
    have E2 := Lib.hid e2
    clear e1 e2 hmem
    go_wp2_with fail
    go_ret
    exact ⟨j, U, rfl, ⟨bt1, bf1, ⟨_, hT1, hrow1⟩, mp1, HOK.out, hle, hn0.1, hn0.2.1, by simp; omega⟩, by rw [E2.out]; simp [hj], .inl ⟨rfl, by rw [E2.out]; exact List.getElem_mem hj⟩, ⟨by simp, fun k o hk _ _ _ => hx1.blk hk⟩, Below.mono hx1 hn0.2.2⟩
  · have HN := Lib.hid hne
    clear hne
    obtain ⟨W2, hrun, mp2, hg2, hs2⟩ := mp1.put keyed83 Try.underlying109 hkeys.out hkey HN.out (v := .int .i64 ((U.length : Nat) : Int))
    rw [← ent_snoc] at mp2
    go_wp2_with (refine wpList_load83 rfl (.tmp 3) rfl rfl g1 hb1 ?_)
    rw [hrun]
    clear hrun
    go_wp2_with fail
    have hW2 : W2.heap.size = W.heap.size + 1 := by rw [hs2]; simp
    have n1 : tb ≠ mf := fun e => by
      obtain ⟨es, ck, hm, _⟩ := mp1
      have h1 : _ = some (Obj.cells _ _ _) := bt1
      rw [e, hm] at h1
      cases h1
    have n2 : fb ≠ mf := fun e => by
      obtain ⟨es, ck, hm, _⟩ := mp1
      have h1 : _ = some (Obj.cells _ _ _) := bf1
      rw [e, hm] at h1
      cases h1
    have n3 : T ≠ mf := fun e => by
      obtain ⟨es, ck, hm, _⟩ := mp1
      have h1 := hT1
      rw [e, hm] at h1
      cases h1
    have bt2 := bt1.kept hg2 (by simpa using n1)
    have bf2 := bf1.kept hg2 (by simpa using n2)
    have hT2 : W2.heap[T]? = _ := (hg2.block T (blk_lt hT1) (by simpa using n3)).trans hT1
    have g2 : Holds83 W2 W.heap.size b := (hg2.block W.heap.size (by simp) (by have := mp.lt; simp; omega)).trans g1
    have hrow2 := hrow1.kept hg2 (by
      rcases hrow1.2 with ⟨h1, _⟩ | ⟨g, c', cur, h1, _, hgb, _⟩
      · left; rw [h1]; rfl
      · right
        intro e
        obtain ⟨es, ck, hm, _⟩ := mp1
        rw [h1] at e
        obtain rfl : g = mf := by simpa [Value.ownBlock] using e
        rw [hm] at hgb
        cases hgb)
    have qt : ∀ w', EOn (fun a => a.block = tb ∨ a.block = T ∨ a.block = W.heap.size) W2 w' → w'.cell? ⟨tb, 0, none⟩ = some (.pointer (some ⟨T, 0, none⟩)) := fun w' h => h.cell (.inl rfl) bt2.cell
    have qu : ∀ w', EOn (fun a => a.block = tb ∨ a.block = T ∨ a.block = W.heap.size) W2 w' → w'.cell? ⟨T, 2, none⟩ = some (.slice p U.length cap) := fun w' h => h.cell (.inr (.inl rfl)) (cell_blk hT2 2)
    refine wp_lex ((fun a => a.block = tb ∨ a.block = T ∨ a.block = W.heap.size)) [true, true, true, true, true, true, false, false] (by kernel_rfl) (by kernel_rfl) ?_
    repeat first
      | refine wpG_move (by rfl) (by simp only [Act.eval, Array.getD_eq_getD_getElem?, List.getElem?_toArray, List.getElem?_cons_succ, List.getElem?_cons_zero, Option.getD_some]; try rfl) (by simp only [Act.put, List.setIfInBounds_toArray, List.set_cons_succ, List.set_cons_zero]; rfl) ?_
      | refine wpG_assign (by rfl) (by simp only [Act.eval, Array.getD_eq_getD_getElem?, List.getElem?_toArray, List.getElem?_cons_succ, List.getElem?_cons_zero, Option.getD_some]; try rfl) (by simp only [Act.put, List.setIfInBounds_toArray, List.set_cons_succ, List.set_cons_zero]; rfl) ?_
      | refine wpG_val (by rfl) (fun w' hx => (by go_simp; first | (go_bits; first | exact rfl | exact ⟨by omega, rfl⟩) | exact rfl | exact (if_neg (by omega)).trans rfl | exact ⟨by omega, rfl⟩)) (by simp only [Act.put, List.setIfInBounds_toArray, List.set_cons_succ, List.set_cons_zero]; rfl) ?_
      | refine wpG_no (by rfl) (by simp only [Act.put, List.setIfInBounds_toArray, List.set_cons_succ, List.set_cons_zero]; rfl) ?_
    refine wpG_load83 (by rfl) (by simp only [Act.eval, Array.getD_eq_getD_getElem?, List.getElem?_toArray, List.getElem?_cons_succ, List.getElem?_cons_zero, Option.getD_some]; try rfl) g2 hb1 (fun i => .inr (.inr rfl)) (by simp only [Act.put, List.setIfInBounds_toArray, List.set_cons_succ, List.set_cons_zero]; rfl) ?_
    refine wpG_do (by rfl) (fun w3 hx3 K hK => ?_)
    refine wp_build83 (.tmp 28) rfl rfl hb1 ?_
    refine hK _ _ ⟨EOn.of_ext ((Ext.refl w3).alloc _), ?_⟩
    clear hK
    refine wpG_do (by rfl) (fun w4 hx4 K hK => ?_)
    have g4 : Holds83 w4 w3.heap.size b := hx4.blk (World.alloc_heap_new w3 _)
    have hx24 : Ext W2 w4 := (hx3.alloc _).trans hx4
    have hrow4 := ownsRow_ext hrow2 hx24
    have hglt : ∀ g, (Value.slice p U.length cap).ownBlock = some g → g < W.heap.size := fun g hg => (hrow.lt g hg).2
    refine wp_append_own w4 (.tmp 27) (.tmp 29) 78 rfl n₀ 83 i0 (.agg (u8s (rep 0))) 128 128 Try.underlying78 hi hz0 hz1 hz2 (by show (u8s (rep 0)).size = 128; rw [u8s_size, rep_length]) (by decide)
      _ U.length (rowU U) rfl hrow4 ⟨w3.heap.size, 0, none⟩ 1 1 (b.map (Value.int .u8)) rfl (by simp [hb1]) ?c1 ?c2 (by unfold maxLen; omega) (by omega) (by have := hx24.sz; omega) ?_
    case c1 =>
      intro j u hu
      have hadd : (⟨w3.heap.size, 0, none⟩ : Addr).add j = ⟨w3.heap.size, j, none⟩ := by unfold Addr.add; split <;> simp_all
      have hj : j < b.length := by
        have := (List.getElem?_eq_some_iff.1 hu).1
        simpa using this
      rw [hadd, g4.cell j hj]
      simpa [hj] using hu
    case c2 => intro u hu; obtain ⟨x, _, rfl⟩ := List.mem_map.1 hu; rfl
    intro v' w' hown' hgrow _
    rw [← rowU_snoc] at hown'
    refine hK _ _ ⟨?_, ?_⟩
    · refine ⟨hgrow.size, fun a ha hb => ?_⟩
      have hne : some a.block ≠ (Value.slice p U.length cap).ownBlock := by
        rcases ha with e | e | e
        · rw [e]; exact (bt2.ext hx24).not_row (by decide) hrow4
        · rw [e]
          intro e2
          have h1 := hx24.blk hT2
          rcases hrow4.2 with ⟨h3, _⟩ | ⟨g, c', cur, h3, _, hgb, _⟩
          · rw [h3] at e2; simp [Value.ownBlock] at e2
          · rw [h3] at e2
            obtain rfl : T = g := by simpa [Value.ownBlock] using e2
            rw [hgb] at h1
            simp at h1
        · rw [e]; intro e2; have := hglt _ e2.symm; omega
      unfold World.cell?
      rw [hgrow.block a.block hb hne]
    replace hgrow : w4.grownBy w' (Value.slice p U.length cap).ownBlock := hgrow
    obtain ⟨g', cap', rfl⟩ := ownsRow_succ hown'
    have hTne : some T ≠ (Value.slice p U.length cap).ownBlock := by
      intro e2
      have h1 := hx24.blk hT2
      rcases hrow4.2 with ⟨h3, _⟩ | ⟨g, c', cur, h3, _, hgb, _⟩
      · rw [h3] at e2; simp [Value.ownBlock] at e2
      · rw [h3] at e2
        obtain rfl : T = g := by simpa [Value.ownBlock] using e2
        rw [hgb] at h1
        simp at h1
    have hmne : some mf ≠ (Value.slice p U.length cap).ownBlock := by
      intro e2
      obtain ⟨es, ck, hm, _⟩ := mp2
      have h1 := hx24.blk hm
      rcases hrow4.2 with ⟨h3, _⟩ | ⟨g, c', cur, h3, _, hgb, _⟩
      · rw [h3] at e2; simp [Value.ownBlock] at e2
      · rw [h3] at e2
        obtain rfl : mf = g := by simpa [Value.ownBlock] using e2
        rw [hgb] at h1
        simp at h1
    have hT5 := (hgrow.block T (blk_lt (hx24.blk hT2)) hTne).trans (hx24.blk hT2)
    have bt5 := (bt2.ext hx24).kept hgrow ((bt2.ext hx24).not_row (by decide) hrow4)
    have bf5 := (bf2.ext hx24).kept hgrow ((bf2.ext hx24).not_row (by decide) hrow4)
    have mp5 := (mp2.ext hx24).kept hgrow hmne
    refine wpG_end (fun w5 hx5 => ?_)
    replace hT5 := hx5.blk hT5
    replace bt5 := bt5.ext hx5
    replace bf5 := bf5.ext hx5
    replace mp5 := mp5.ext hx5
    have hrow5 := ownsRow_ext hown' hx5
    have cu5 := cell_blk hT5 2
    simp only [List.getElem?_toArray, List.getElem?_cons_succ, List.getElem?_cons_zero] at cu5
    have fu5 := frz_blk hT5 2
    go_wp2_with fail
    refine gQ_normal ?_
    go_wp2_with fail
    go_ret
    have hgs := grownBy_setAt w5 ⟨T, 2, none⟩ (.slice (some ⟨g', 0, none⟩) (U.length + 1) cap')
    have nT1 : some tb ≠ some T := by
      intro e
      have h1 : w5.heap[tb]? = some (Obj.cells _ _ _) := bt5
      rw [Option.some.inj e, hT5] at h1
      simp at h1
    have nT2 : some fb ≠ some T := by
      intro e
      have h1 : w5.heap[fb]? = some (Obj.cells _ _ _) := bf5
      rw [Option.some.inj e, hT5] at h1
      simp at h1
    have hnb : b ∉ U := fun hb => by
      obtain ⟨j, hj, e⟩ := List.mem_iff_getElem.1 hb
      refine HN.out _ (ent_of hj) ?_
      rw [e]
    have hTs := set_blk hT5 2 (.slice (some ⟨g', 0, none⟩) (U.length + 1) cap')
    have hrow6 := hrow5.kept hgs (.inr (row_ne hrow5 hT5 (by decide)).symm)
    refine ⟨U.length, U ++ [b], rfl, ⟨bt5.kept hgs nT1, bf5.kept hgs nT2, ⟨_, hTs, by simpa using hrow6⟩, mp5.kept hgs (by simpa using (Ne.symm n3)), ?_, by simp; omega, hn0.1, hn0.2.1, ?_⟩, by simp, .inr ⟨rfl, hnb⟩, ⟨?_, ?_⟩, ?_⟩
    · intro x hx
      rcases List.mem_append.1 hx with hx | hx
      · exact HOK.out x hx
      · obtain rfl : x = b := by simpa using hx
        exact ⟨hb1, HB2.out⟩
    · have h1 := hx24.sz; have h2 := hgrow.size; have h3 := hx5.sz; have h4 := hgs.size; omega
    · have h1 := hx24.sz; have h2 := hgrow.size; have h3 := hx5.sz; have h4 := hgs.size; omega
    · intro k o hk kT km kc
      have h1 := hx1.blk hk
      have h2 := (hg2.block k (blk_lt h1) (by simpa using km)).trans h1
      have h3 := hx24.blk h2
      have h4 := (hgrow.block k (blk_lt h3) (kc _ (cell_blk hT 2))).trans h3
      have h5 := hx5.blk h4
      exact (hgs.block k (blk_lt h5) (by simpa using kT)).trans h5
    · have b1 : Below n₀ W (W.alloc (.cells (u8s b) 83)) := Below.mono hx1 hn0.2.2
      have b2 := b1.grown hg2 (by simp; omega) (fun k e => by cases e; exact hn0.2.1)
      have b3 := b2.trans (Below.mono hx24 (by omega))
      have b4 := b3.grown hgrow (by have := hx24.sz; omega) (fun k e => (hrow4.lt k e).1)
      have b5 := b4.trans (Below.mono hx5 (by have h1 := hx24.sz; have h2 := hgrow.size; omega))
      exact b5.setCell (p := ⟨T, 2, none⟩) hn0.1 _
end Go.Proofs.Ytbbemipidkhmfaa
