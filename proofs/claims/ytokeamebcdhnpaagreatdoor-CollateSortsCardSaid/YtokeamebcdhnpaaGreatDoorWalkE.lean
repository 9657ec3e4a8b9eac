/-
 The tables.
-/
import Derived.Test.YtokeamebcdhnpaaGreatDoorLdM
namespace Go.Proofs.YtokeamebcdhnpaaGreatDoor
open Go.RowKit Go.Rp Go.Shelf Go.Maps

attribute [local go_sem] run_makeMap
theorem calls_str {P : Program} {f : FuncId} {s s' : ByteArray} {w : World} {R : Ending → World → Prop} (e : s' = s) (h : Calls P f #[.string s'] w R) : Calls P f #[.string s] w R := by rw [← e]; exact h
/-- What the tables' texts say. -/
noncomputable def apartT : List (Int × List Int) := (wordsC textA.data.toList).map entOf
noncomputable def alsoT : List (Int × List Int) := (wordsC textK.data.toList).map entOf
theorem hA0 : textA.size ≤ 1000000 ∧ (∀ c ∈ textA.data.toList, c.toNat < 128) ∧ GoodL (wordsC textA.data.toList) := by
 have h := sizeA
 simp only [Bool.and_eq_true, decide_eq_true_eq, List.all_eq_true] at h
 exact ⟨h.1.1, h.1.2, goodB_spec h.2⟩
theorem hK0 : textK.size ≤ 1000000 ∧ (∀ c ∈ textK.data.toList, c.toNat < 128) ∧ GoodL (wordsC textK.data.toList) := by
 have h := sizeK
 simp only [Bool.and_eq_true, decide_eq_true_eq, List.all_eq_true] at h
 exact ⟨h.1.1, h.1.2, goodB_spec h.2⟩
theorem c_partsA (w : World) (hT : Tabs w) : Calls Tryz.prog 61 #[.string textA] w fun e w' => ∃ m kv, e = .returned (.map (some m)) ∧ w.heap.size ≤ m ∧ RMap w.heap.size w' m kv apartT ∧ Ext w w' :=
 c_parts textA _ (words_list textA) w hA0.1 hA0.2.1 hT (Lib.hid hA0.2.2)
theorem c_partsK (w : World) (hT : Tabs w) : Calls Tryz.prog 61 #[.string textK] w fun e w' => ∃ m kv, e = .returned (.map (some m)) ∧ w.heap.size ≤ m ∧ RMap w.heap.size w' m kv alsoT ∧ Ext w w' :=
 c_parts textK _ (words_list textK) w hK0.1 hK0.2.1 hT (Lib.hid hK0.2.2)
/-- Lines of words, in a slice of slices. -/
def Rws (W : World) (p : Option Addr) (L : List (List (List UInt8))) : Prop := ∀ i (h : i < L.length), ∃ rb b, p = some ⟨rb, 0, none⟩ ∧ rb < W.heap.size ∧ W.cell? ⟨rb, i, none⟩ = some (.slice (some ⟨b, 0, none⟩) L[i].length L[i].length) ∧ W.heap[b]? = some (.cells (L[i].map fun l => Value.string ⟨l.toArray⟩).toArray 9 (0, 0))
theorem rws_of {W : World} {n n' : Nat} {p : Option Addr} {cap : Nat} {vs : List Value} {L : List (List (List UInt8))} (h : W.ownsRow n 40 1 (.slice p L.length cap) L.length vs) (hw : Wds n' W vs L) : Rws W p L := by
 intro i hi
 have hi' : i < vs.length := by rw [hw.1]; exact hi
 obtain ⟨b, _, h2, h3⟩ := hw.2 i hi' hi
 obtain ⟨g, rfl, _, h4, h5⟩ := own_at h (by omega)
 refine ⟨g, b, rfl, h4, ?_, h3⟩
 rw [h5 i (by omega), List.getElem?_eq_getElem hi', h2]
theorem Rws.kept {W W' : World} {p : Option Addr} {L : List (List (List UInt8))} (h : Rws W p L) {m : Nat} (hm : NoCell W m) (hg : W.grownBy W' (some m)) : Rws W' p L := by
 intro i hi
 obtain ⟨rb, b, h1, h2, h3, h4⟩ := h i hi
 have hne : rb ≠ m := by
  rintro rfl
  exact hm.1 _ _ h3
 have hne2 : b ≠ m := by
  rintro rfl
  exact hm.2 _ _ _ h4
 exact ⟨rb, b, h1, Nat.lt_of_lt_of_le h2 hg.size, (World.cell?_of_block (hg.block rb h2 (by simpa using hne))).trans h3, (hg.block b (blk_lt h4) (by simpa using hne2)).trans h4⟩
theorem heap_alloc_get (w : World) (o : Obj) (k : Nat) : (w.alloc o).heap[k]? = if k = w.heap.size then some o else w.heap[k]? := by
 show (w.heap.push o)[k]? = _
 rw [Array.getElem?_push]
theorem Rws.ext {W W' : World} {p : Option Addr} {L : List (List (List UInt8))} (h : Rws W p L) (hx : Ext W W') : Rws W' p L := by
 intro i hi
 obtain ⟨rb, b, h1, h2, h3, h4⟩ := h i hi
 exact ⟨rb, b, h1, Nat.lt_of_lt_of_le h2 hx.sz, hx.cell h3, hx.blk h4⟩
theorem sizeX : decide (textX.size ≤ 1000000) && textX.data.toList.all (fun c => decide (c.toNat < 128)) && (wordsC textX.data.toList).all (fun ws => decide (1 ≤ ws.length) && ws.all wordB) && nodupB ((wordsC textX.data.toList).map fun ws => hexV (ws.headD [])) = true := by kernel_rfl
noncomputable def linesX : List (List (List UInt8)) := wordsC textX.data.toList
theorem hX0 : textX.size ≤ 1000000 ∧ (∀ c ∈ textX.data.toList, c.toNat < 128) ∧ (∀ ws ∈ linesX, 1 ≤ ws.length ∧ ∀ x ∈ ws, HexW x) ∧ (linesX.map fun ws => hexV (ws.headD [])).Nodup := by
 have h := sizeX
 simp only [Bool.and_eq_true, decide_eq_true_eq, List.all_eq_true] at h
 exact ⟨h.1.1.1, h.1.1.2, fun ws hw => ⟨(h.1.2 ws hw).1, fun x hx => wordB_spec ((h.1.2 ws hw).2 x hx)⟩, nodupB_spec h.2⟩
/-- What the line at a place joins. -/
def jAt (out : List Int) (E : List (Int × List Int)) (i : Nat) : Option ((Int × Int) × Int) := (E[i]?).bind (jnE out)
/-- The first word's number. -/
def keyOfL (ws : List (List UInt8)) : Int := (hexV (ws.headD []) : Nat)
theorem keyL_le {ws : List (List UInt8)} (h : 1 ≤ ws.length ∧ ∀ x ∈ ws, HexW x) : 0 ≤ keyOfL ws ∧ keyOfL ws < 16777216 := by
 obtain ⟨h1, h2⟩ := h
 cases ws with
 | nil => simp at h1
 | cons k xs => exact ⟨Int.natCast_nonneg _, hex_le (h2 k (by simp))⟩
/-- What is asked of the lines of a table. -/
def GoodE (out : List Int) (E : List (Int × List Int)) : Prop := (∀ e ∈ E, (0 ≤ e.1 ∧ e.1 < 16777216) ∧ ∀ x ∈ e.2, 0 ≤ x ∧ x < 16777216) ∧ (E.filterMap (jnE out)).Pairwise (fun p q => p.1 ≠ q.1)
def jnN (out : List Nat) : List (List UInt8) → Option Nat
 | [k, a, b] => if out.any (Nat.beq (hexV k)) then none else some (hexV a * 16777216 + hexV b)
 | _ => none
theorem jnN_of {out : List Nat} {ws : List (List UInt8)} {q : (Int × Int) × Int} (hw : 1 ≤ ws.length) (h : jnE (out.map fun n => ((n : Nat) : Int)) (entOf ws) = some q) : ∃ a b : Nat, q.1 = ((a : Int), (b : Int)) ∧ jnN out ws = some (a * 16777216 + b) := by
 match ws, hw with
 | [k], _ => simp [entOf, jnE] at h
 | [k, a], _ => simp [entOf, jnE] at h
 | [k, a, b], _ =>
  have e : entOf [k, a, b] = (((hexV k : Nat) : Int), [((hexV a : Nat) : Int), ((hexV b : Nat) : Int)]) := rfl
  rw [e] at h
  unfold jnE at h
  simp only at h
  split at h
  ·cases h
  ·rename_i hk
   refine ⟨hexV a, hexV b, by cases h; rfl, ?_⟩
   have : out.any (Nat.beq (hexV k)) = false := by
    rw [List.any_eq_false]
    intro n hn hb
    have hb := Nat.eq_of_beq_eq_true hb
    exact hk (List.mem_map.2 ⟨n, hn, by rw [hb]⟩)
   unfold jnN
   simp only [this, Bool.false_eq_true, if_false]
 | k :: a :: b :: c :: t, _ => simp [entOf, jnE] at h
theorem jnCheck : nodupB ((wordsC textA.data.toList).filterMap (jnN ((wordsC textX.data.toList).map fun ws => hexV (ws.headD [])))) = true := by kernel_rfl
theorem goodEA : GoodE (linesX.map keyOfL) apartT := by
 have hx : linesX.map keyOfL = ((wordsC textX.data.toList).map fun ws => hexV (ws.headD [])).map fun n => ((n : Nat) : Int) := by
  rw [List.map_map]; rfl
 refine ⟨fun e he => ?_, ?_⟩
 ·obtain ⟨ws, hw, rfl⟩ := List.mem_map.1 he
  obtain ⟨h1, h2⟩ := hA0.2.2.1 ws hw
  cases ws with
  | nil => simp at h1
  | cons k xs =>
   refine ⟨⟨Int.natCast_nonneg _, hex_le (h2 k (by simp))⟩, fun x hx => ?_⟩
   obtain ⟨y, hy, rfl⟩ := List.mem_map.1 hx
   exact ⟨Int.natCast_nonneg _, hex_le (h2 y (by simp at hy; simp [hy]))⟩
 ·have hn := nodupB_spec jnCheck
  unfold List.Nodup at hn
  rw [List.pairwise_filterMap] at hn ⊢
  unfold apartT
  rw [List.pairwise_map]
  refine hn.imp_of_mem fun {x y} hxm hym h p hp q hq e => ?_
  rw [hx] at hp hq
  have l1 := (hA0.2.2.1 x hxm).1.1
  have l2 := (hA0.2.2.1 y hym).1.1
  obtain ⟨a, b, e1, e2⟩ := jnN_of (by omega) hp
  obtain ⟨a', b', e3, e4⟩ := jnN_of (by omega) hq
  rw [e1, e3] at e
  simp only [Prod.mk.injEq] at e
  refine h _ e2 _ e4 ?_
  have := e.1; have := e.2
  omega
theorem jAt_ne {out : List Int} {E : List (Int × List Int)} (h : (E.filterMap (jnE out)).Pairwise (fun p q => p.1 ≠ q.1)) {i j : Nat} (hne : i ≠ j) {p q : (Int × Int) × Int} (hp : jAt out E i = some p) (hq : jAt out E j = some q) : p.1 ≠ q.1 := by
 rw [List.pairwise_filterMap] at h
 have hb : ∀ {k : Nat} {p}, jAt out E k = some p → ∃ hk : k < E.length, jnE out E[k] = some p := fun {k p} e => by
  unfold jAt at e
  by_cases hk : k < E.length
  ·rw [List.getElem?_eq_getElem hk] at e; exact ⟨hk, e⟩
  ·rw [List.getElem?_eq_none (by omega)] at e; cases e
 obtain ⟨hi, e1⟩ := hb hp
 obtain ⟨hj, e2⟩ := hb hq
 rcases Nat.lt_or_gt_of_ne hne with hl | hl
 ·exact List.pairwise_iff_getElem.1 h i j hi hj hl _ e1 _ e2
 ·exact (List.pairwise_iff_getElem.1 h j i hj hi hl _ e2 _ e1).symm
theorem D_step {D I : List Nat} {n i : Nat} (h : D.Nodup ∧ ∀ j, j ∈ D ↔ j < n ∧ j ∉ I) (hi : i < n) (hI : i ∈ I) : (D ++ [i]).Nodup ∧ ∀ j, j ∈ D ++ [i] ↔ j < n ∧ j ∉ I.filter (· ≠ i) := by
 refine ⟨List.nodup_append.2 ⟨h.1, by simp, fun a ha b hb => ?_⟩, fun j => ?_⟩
 ·have := (h.2 a).1 ha
  simp at hb
  subst hb
  rintro rfl
  exact this.2 hI
 ·simp only [List.mem_append, h.2, List.mem_singleton, List.mem_filter, decide_eq_true_eq]
  constructor
  ·rintro (⟨h1, h2⟩ | rfl)
   ·exact ⟨h1, fun e => h2 e.1⟩
   ·exact ⟨hi, fun e => e.2 rfl⟩
  ·rintro ⟨h1, h2⟩
   by_cases e : j = i
   ·exact .inr e
   ·exact .inl ⟨h1, fun e2 => h2 ⟨e2, e⟩⟩
theorem ones_look {W : World} {m : Nat} {L : List Int} (h : MapIs W m (ones L)) (hL : ∀ r ∈ L, 0 ≤ r ∧ r < 16777216) {r : Int} (h0 : 0 ≤ r) (h1 : r < 16777216) : (Instr.lookup 101 (.map (some m)) (.int .i32 r) false).run Tryz.prog W = .ok (.int .i64 (if r ∈ L then 1 else 0)) W := by
 have hz : ∀ W, (zeroValue 3).run Tryz.prog W = .ok (.int .i64 0) W := fun W => Tryz.zeroValue3 W
 by_cases hr : r ∈ L
 ·rw [if_pos hr]
  exact h.there (int_keyed Tryz.underlying21) Tryz.underlying101 (ones_keys hL) (key_i32 h0 (by omega)) hz (v := .int .i64 1) (List.mem_map.2 ⟨r, hr, rfl⟩) (fun v' hv' => by
   obtain ⟨q, _, e⟩ := List.mem_map.1 hv'
   cases e
   rfl) false
 ·rw [if_neg hr]
  exact h.none (int_keyed Tryz.underlying21) Tryz.underlying101 (ones_keys hL) (key_i32 h0 (by omega)) hz (fun p hp e => by
   obtain ⟨q, hq, rfl⟩ := List.mem_map.1 hp
   simp at e
   exact hr (e ▸ hq)) false
/-- Keep one more. -/
theorem ones_put {W : World} {m : Nat} {S : List Int} (h : MapIs W m (ones S)) (hS : ∀ r ∈ S, 0 ≤ r ∧ r < 16777216) (hn : S.Nodup) {b : Int} (h0 : 0 ≤ b) (h1 : b < 16777216) : ∃ W', (Instr.mapUpdate 101 (.map (some m)) (.int .i32 b) (.int .i64 1)).run Tryz.prog W = .ok () W' ∧ MapIs W' m (ones (if b ∈ S then S else S ++ [b])) ∧ W.grownBy W' (some m) ∧ W'.heap.size = W.heap.size := by
 by_cases hb : b ∈ S
 ·rw [if_pos hb]
  obtain ⟨A, B, rfl⟩ := List.append_of_mem hb
  have e : ones (A ++ b :: B) = ones A ++ (.int .i32 b, .int .i64 1) :: ones B := by simp [ones]
  rw [e] at h ⊢
  rw [List.nodup_append] at hn
  refine h.set (int_keyed Tryz.underlying21) Tryz.underlying101 (by rw [← e]; exact ones_keys hS) (key_i32 h0 (by omega)) (fun p hp e => ?_) (fun p hp e => ?_)
  ·obtain ⟨q, hq, rfl⟩ := List.mem_map.1 hp
   simp at e
   exact hn.2.2 q hq b (by simp) e
  ·obtain ⟨q, hq, rfl⟩ := List.mem_map.1 hp
   simp at e
   subst e
   exact (List.nodup_cons.1 hn.2.1).1 hq
 ·rw [if_neg hb]
  obtain ⟨W', r1, r2, r3⟩ := h.put (int_keyed Tryz.underlying21) Tryz.underlying101 (x := .int .i32 b) (v := .int .i64 1) (ones_keys hS) (key_i32 h0 (by omega)) (fun p hp e => by
   obtain ⟨q, hq, rfl⟩ := List.mem_map.1 hp
   simp at e
   exact hb (e ▸ hq))
  exact ⟨W', r1, by simpa [ones] using r2, r3⟩
theorem MRng.kept {W W' : World} {m r : Nat} {kv : List (Value × Value)} {I : List Nat} (h : MRng W m r kv I) {row : Option Nat} (hg : W.grownBy W' row) (h1 : some m ≠ row) (h2 : some r ≠ row) : MRng W' m r kv I ∧ W'.rangeLeft m r = W.rangeLeft m r :=
 h.of_blk (hg.block m h.lt.1 h1) (hg.block r h.lt.2.1 h2)
theorem MRng.ext {W W' : World} {m r : Nat} {kv : List (Value × Value)} {I : List Nat} (h : MRng W m r kv I) (hx : Ext W W') : MRng W' m r kv I ∧ W'.rangeLeft m r = W.rangeLeft m r :=
 h.of_blk (hx.block m h.lt.1) (hx.block r h.lt.2.1)
theorem ext_grown {W W' : World} (hx : Ext W W') (row : Option Nat) : W.grownBy W' row := ⟨hx.os, hx.tape, hx.output, hx.size, fun k hk _ => hx.block k hk⟩
theorem jAt_none_step {out : List Int} {E : List (Int × List Int)} {D : List Nat} {i : Nat} (h : jAt out E i = none) : (D ++ [i]).filterMap (jAt out E) = D.filterMap (jAt out E) := by simp [List.filterMap_append, h]
theorem jAt_some_step {out : List Int} {E : List (Int × List Int)} {D : List Nat} {i : Nat} {q : (Int × Int) × Int} (h : jAt out E i = some q) : (D ++ [i]).filterMap (jAt out E) = D.filterMap (jAt out E) ++ [q] := by simp [List.filterMap_append, h]
theorem jAt_range {out : List Int} {E : List (Int × List Int)} (h : GoodE out E) {i : Nat} {q : (Int × Int) × Int} (e : jAt out E i = some q) : ((0 ≤ q.1.1 ∧ q.1.1 < 16777216) ∧ 0 ≤ q.1.2 ∧ q.1.2 < 16777216) ∧ 0 ≤ q.2 ∧ q.2 < 16777216 := by
 unfold jAt at e
 by_cases hk : i < E.length
 ·rw [List.getElem?_eq_getElem hk] at e
  have hm := h.1 E[i] (List.getElem_mem hk)
  generalize E[i] = p at hm e
  obtain ⟨r, es⟩ := p
  match es, hm with
  | [a, b], hm =>
   simp only [Option.bind_some, jnE] at e
   split at e
   ·cases e
   ·cases e
    exact ⟨⟨hm.2 a (by simp), hm.2 b (by simp)⟩, hm.1⟩
  | [], _ => cases e
  | [a], _ => cases e
  | a :: b :: c :: t, _ => cases e
 ·rw [List.getElem?_eq_none (by omega)] at e; cases e
theorem encJ_keys {out : List Int} {E : List (Int × List Int)} (h : GoodE out E) (D : List Nat) : ∀ p ∈ (D.filterMap (jAt out E)).map encJ, ∃ l, keyOf Tryz.prog 109 p.1 = some l := by
 intro p hp
 obtain ⟨q, hq, rfl⟩ := List.mem_map.1 hp
 obtain ⟨j, _, hj⟩ := List.mem_filterMap.1 hq
 have := jAt_range h hj
 exact keyPr q.1 ⟨by omega, by omega⟩
theorem pairV_inj {p q : Int × Int} (h : pairV p = pairV q) : p = q := by
 simp at h
 exact Prod.ext h.1 h.2
theorem S_step {S : List Int} {Q : List ((Int × Int) × Int)} (h : S.Nodup ∧ ∀ k, k ∈ S ↔ ∃ a r, ((a, k), r) ∈ Q) (a b r : Int) : (if b ∈ S then S else S ++ [b]).Nodup ∧ ∀ k, k ∈ (if b ∈ S then S else S ++ [b]) ↔ ∃ a' r', ((a', k), r') ∈ Q ++ [((a, b), r)] := by
 have hm : ∀ k, (∃ a' r', ((a', k), r') ∈ Q ++ [((a, b), r)]) ↔ k ∈ S ∨ k = b := fun k => by
  rw [h.2]
  simp only [List.mem_append, List.mem_singleton, Prod.mk.injEq]
  constructor
  ·rintro ⟨a', r', h | ⟨⟨_, h⟩, _⟩⟩
   ·exact .inl ⟨a', r', h⟩
   ·exact .inr h
  ·rintro (⟨a', r', h⟩ | h)
   ·exact ⟨a', r', .inl h⟩
   ·exact ⟨a, r, .inr ⟨⟨rfl, h⟩, rfl⟩⟩
 by_cases hb : b ∈ S
 ·rw [if_pos hb]
  refine ⟨h.1, fun k => ?_⟩
  rw [hm]
  exact ⟨.inl, fun h => h.elim id (fun e => e ▸ hb)⟩
 ·rw [if_neg hb]
  refine ⟨List.nodup_append.2 ⟨h.1, by simp, fun x hx y hy => ?_⟩, fun k => ?_⟩
  ·simp at hy
   subst hy
   rintro rfl
   exact hb hx
  ·rw [hm]
   simp
/-- What a line of the orders says. -/
def ordOf : List (List UInt8) → Int × Int × Int
 | [a, b, c] => ((hexV a : Nat), (hexV b : Nat), (Lib.atoi c).getD 0)
 | _ => (0, 0, 0)
def ordB : List (List UInt8) → Bool
 | [a, b, c] => wordB a && wordB b && decide (c.length ≤ 18) && (match Lib.atoi c with | some n => decide (0 ≤ n) && decide (n < 256) | none => false)
 | _ => false
theorem sizeO : decide (textO.size ≤ 1000000) && textO.data.toList.all (fun c => decide (c.toNat < 128)) && (wordsC textO.data.toList).all ordB = true := by kernel_rfl
noncomputable def linesO : List (List (List UInt8)) := wordsC textO.data.toList
def OrdW (ws : List (List UInt8)) : Prop := ∃ a b c n, ws = [a, b, c] ∧ HexW a ∧ HexW b ∧ c.length ≤ 18 ∧ Lib.atoi c = some n ∧ 0 ≤ n ∧ n < 256
theorem ordB_spec {ws : List (List UInt8)} (h : ordB ws = true) : OrdW ws := by
 match ws, h with
 | [a, b, c], h =>
  simp only [ordB, Bool.and_eq_true, decide_eq_true_eq] at h
  obtain ⟨⟨⟨h1, h2⟩, h3⟩, h4⟩ := h
  cases hn : Lib.atoi c with
  | none => rw [hn] at h4; cases h4
  | some n =>
   rw [hn] at h4
   simp only [Bool.and_eq_true, decide_eq_true_eq] at h4
   exact ⟨a, b, c, n, rfl, wordB_spec h1, wordB_spec h2, h3, hn, h4.1, h4.2⟩
theorem hO0 : textO.size ≤ 1000000 ∧ (∀ c ∈ textO.data.toList, c.toNat < 128) ∧ ∀ ws ∈ linesO, OrdW ws := by
 have h := sizeO
 simp only [Bool.and_eq_true, decide_eq_true_eq, List.all_eq_true] at h
 exact ⟨h.1.1, h.1.2, fun ws hw => ordB_spec (h.2 ws hw)⟩
/-- The cells of the orders. -/
def spanV (x : Int × Int × Int) : List Value := [.int .i32 x.1, .int .i32 x.2.1, .int .i64 x.2.2]
def spanCells (l : List (Int × Int × Int)) : List Value := l.flatMap spanV
theorem infoSp : (Tryz.prog.info? 115).map (fun i => (i.zero, i.size, i.bytes)) = some (some (.agg #[.int .i32 0, .int .i32 0, .int .i64 0]), 3, 16) := by kernel_rfl
/-- The tables, loaded. -/
structure NTab (n : Nat) (W : World) (tB : Nat) : Prop where
 ex : ∃ mA mK jB sB kvA kvK kvJ S v, W.heap[tB]? = some (.cells #[.map (some mA), .map (some mK), .map (some jB), v, .map (some sB)] 104 (0, 0)) ∧ RMap n W mA kvA apartT ∧ RMap n W mK kvK alsoT ∧ (MapIs W jB kvJ ∧ ∃ Q : List ((Int × Int) × Int), kvJ = Q.map encJ ∧ ∀ q, q ∈ Q ↔ q ∈ apartT.filterMap (jnE (linesX.map keyOfL))) ∧ (MapIs W sB (ones S) ∧ ∀ k, k ∈ S ↔ ∃ a r, ((a, k), r) ∈ apartT.filterMap (jnE (linesX.map keyOfL))) ∧ W.ownsRow n 115 3 v linesO.length (spanCells (linesO.map ordOf))
theorem perm_mem {out : List Int} {E : List (Int × List Int)} {D : List Nat} (h : ∀ i, i ∈ D ↔ i < E.length) (q : (Int × Int) × Int) : q ∈ D.filterMap (jAt out E) ↔ q ∈ E.filterMap (jnE out) := by
 simp only [List.mem_filterMap]
 constructor
 ·rintro ⟨j, hj, e⟩
  have hj' := (h j).1 hj
  unfold jAt at e
  rw [List.getElem?_eq_getElem hj'] at e
  exact ⟨_, List.getElem_mem hj', e⟩
 ·rintro ⟨e, he, hq⟩
  obtain ⟨j, hj, rfl⟩ := List.mem_iff_getElem.1 he
  exact ⟨j, (h j).2 hj, by unfold jAt; rw [List.getElem?_eq_getElem hj]; exact hq⟩
theorem RMap.kept2 {n : Nat} {W W' : World} {m : Nat} {kv : List (Value × Value)} {E : List (Int × List Int)} (h : RMap n W m kv E) {q : Nat} (hq : ∀ c z, W.heap[q]? ≠ some (.cells c 21 z)) (hne : q ≠ m) (hg : W.grownBy W' (some q)) : RMap n W' m kv E :=
 ⟨h.1.kept hg (by simpa using Ne.symm hne), h.2.1, fun i h1 h2 => let ⟨v, e, hr⟩ := h.2.2 i h1 h2; ⟨v, e, hr.kept hg (.inr (by
  rcases hr.2 with ⟨rfl, _⟩ | ⟨g, cap, cur, rfl, _, hgb, _⟩
  ·simp [Value.ownBlock]
  ·intro e
   obtain rfl : g = q := by simpa [Value.ownBlock] using e
   exact hq _ _ hgb))⟩⟩
theorem map_ne {W : World} {m q : Nat} {kv : List (Value × Value)} (h : MapIs W m kv) {c : Array Value} {t : TypeId} {z : Nat × Nat} (hq : W.heap[q]? = some (.cells c t z)) : q ≠ m := by
 rintro rfl
 exact h.nocell.2 _ _ _ hq
theorem LdSt.typed {W W' : World} {n mA mK jB sB oB tB : Nat} {kvA kvK kvJ kvS kvO : List (Value × Value)} {EA EK : List (Int × List Int)} {os : Value} (h : LdSt W n mA mK jB sB oB tB kvA kvK kvJ kvS kvO EA EK os) {q : Nat} {c : Array Value} {t : TypeId} {z : Nat × Nat} (hq : W.heap[q]? = some (.cells c t z)) (ht : t ≠ 21) (hg : W.grownBy W' (some q)) {os' : Value} (ht' : W'.heap[tB]? = some (.cells #[.map (some mA), .map (some mK), .map (some jB), os', .map (some sB)] 104 (0, 0))) : LdSt W' n mA mK jB sB oB tB kvA kvK kvJ kvS kvO EA EK os' := by
 have hq' : ∀ c z, W.heap[q]? ≠ some (.cells c 21 z) := fun c' z' e => by
  rw [hq] at e
  simp only [Option.some.injEq, Obj.cells.injEq] at e
  exact ht e.2.1
 have f : ∀ {m : Nat} {kv : List (Value × Value)}, MapIs W m kv → MapIs W' m kv := fun h => h.kept hg (by simpa using Ne.symm (map_ne h hq))
 exact ⟨ht', h.a.kept2 hq' (map_ne h.a.1 hq) hg, h.k.kept2 hq' (map_ne h.k.1 hq) hg, f h.j, f h.s, f h.o⟩
theorem LdSt.append {W W' : World} {n mA mK jB sB oB tB : Nat} {kvA kvK kvJ kvS kvO : List (Value × Value)} {EA EK : List (Int × List Int)} {os : Value} (h : LdSt W n mA mK jB sB oB tB kvA kvK kvJ kvS kvO EA EK os) {n' k : Nat} {v : Value} {xs : List Value} (hr : W.ownsRow n' 115 3 v k xs) (hg : W.grownBy W' v.ownBlock) : LdSt W' n mA mK jB sB oB tB kvA kvK kvJ kvS kvO EA EK os := by
 rcases hr.2 with ⟨rfl, _⟩ | ⟨g, cap, cur, rfl, _, hgb, _⟩
 ·exact h.ext ⟨hg.os, hg.tape, hg.output, hg.size, fun k hk => hg.block k hk (by simp [Value.ownBlock])⟩
 ·refine h.typed hgb (by decide) hg ((hg.block tB (blk_lt h.t) (fun e => ?_)).trans h.t)
  have e : tB = g := by simpa [Value.ownBlock] using e
  subst e
  have := h.t
  rw [hgb] at this
  simp at this
theorem LdSt.store {W : World} {n mA mK jB sB oB tB : Nat} {kvA kvK kvJ kvS kvO : List (Value × Value)} {EA EK : List (Int × List Int)} {os : Value} (h : LdSt W n mA mK jB sB oB tB kvA kvK kvJ kvS kvO EA EK os) (v : Value) : LdSt (W.setCell ⟨tB, 3, none⟩ v) n mA mK jB sB oB tB kvA kvK kvJ kvS kvO EA EK v ∧ W.grownBy (W.setCell ⟨tB, 3, none⟩ v) (some tB) := by
 have hg : W.grownBy (W.setCell ⟨tB, 3, none⟩ v) (some tB) := ⟨rfl, rfl, rfl, (KeepsWalks.setCell W _ v).size, fun k _ hk => Below.heap_setCell _ _ _ k (fun e => hk (by rw [e]))⟩
 exact ⟨h.typed h.t (by decide) hg ((set_blk h.t 3 v).trans rfl), hg⟩
theorem no_slice {mA mK jB sB k c : Nat} {q : Addr} (h : Value.slice (some q) k c ∈ #[Value.map (some mA), .map (some mK), .map (some jB), .slice none 0 0, .map (some sB)]) : False := by simp at h
theorem Rws.byT {W W' : World} {p : Option Addr} {L : List (List (List UInt8))} (h : Rws W p L) {n mA mK jB sB oB tB : Nat} {kvA kvK kvJ kvS kvO : List (Value × Value)} {EA EK : List (Int × List Int)} (hL : LdSt W n mA mK jB sB oB tB kvA kvK kvJ kvS kvO EA EK (.slice none 0 0)) (hg : W.grownBy W' (some tB)) : Rws W' p L := by
 intro i hi
 obtain ⟨rb, b, h1, h2, h3, h4⟩ := h i hi
 have hne : rb ≠ tB := by
  rintro rfl
  rw [cell_blk hL.t] at h3
  exact no_slice (Array.mem_of_getElem? h3)
 have hne2 : b ≠ tB := by
  rintro rfl
  have := hL.t
  rw [h4] at this
  simp at this
 exact ⟨rb, b, h1, Nat.lt_of_lt_of_le h2 hg.size, (World.cell?_of_block (hg.block rb h2 (by simpa using hne))).trans h3, (hg.block b (blk_lt h4) (by simpa using hne2)).trans h4⟩
set_option maxRecDepth 100000 in
set_option maxHeartbeats 4000000 in
theorem c_load (w : World) (hT : Tabs w) :
  Calls Tryz.prog 46 #[] w fun e w' => ∃ tB, e = .returned (.pointer (some ⟨tB, 0, none⟩)) ∧ NTab w.heap.size w' tB ∧ Ext w w' := by
 go_enter Tryz.func46, Tryz.ntmps46
 go_wp2_with fail
 refine calls_str (s' := textA) (by kernel_rfl) ?_
 refine (c_partsA w hT).mono ?_
 rintro e w1 ⟨mA, kvA, rfl, hnA, hRA, hx1⟩
 go_wp2_with fail
 refine calls_str (s' := textK) (by kernel_rfl) ?_
 refine (c_partsK w1 (hT.ext hx1)).mono ?_
 rintro e w2 ⟨mK, kvK, rfl, hnK, hRK, hx2⟩
 go_wp2_with fail
 obtain ⟨w3, hw3⟩ : ∃ w3, (((w2.alloc (.map #[] 0)).alloc (.map #[] 0)).alloc (.cells #[.map (some mA), .map (some mK), .map (some w2.heap.size), .slice none 0 0, .map (some (w2.heap.size + 1))] 104)).alloc (.map #[] 0) = w3 := ⟨_, rfl⟩
 have hx3 : Ext w2 w3 := by rw [← hw3]; exact ((((Ext.refl w2).alloc _).alloc _).alloc _).alloc _
 have h3 : w3.heap[w2.heap.size]? = some (.map #[] 0) ∧ w3.heap[w2.heap.size + 1]? = some (.map #[] 0) ∧ w3.heap[w2.heap.size + 1 + 1]? = some (.cells #[.map (some mA), .map (some mK), .map (some w2.heap.size), .slice none 0 0, .map (some (w2.heap.size + 1))] 104) ∧ w3.heap[w2.heap.size + 1 + 1 + 1]? = some (.map #[] 0) := by
  rw [← hw3]
  refine ⟨?_, ?_, ?_, ?_⟩ <;> (simp only [heap_alloc_get, World.size_alloc]; repeat first | exact if_pos rfl | exact if_pos trivial | rw [if_neg (by omega)])
 rw [hw3]
 clear hw3
 obtain ⟨oB, hoB⟩ : ∃ oB, w2.heap.size + 1 + 1 + 1 = oB := ⟨_, rfl⟩
 obtain ⟨tB, htB⟩ : ∃ tB, w2.heap.size + 1 + 1 = tB := ⟨_, rfl⟩
 obtain ⟨sB, hsB⟩ : ∃ sB, w2.heap.size + 1 = sB := ⟨_, rfl⟩
 obtain ⟨jB, hjB⟩ : ∃ jB, w2.heap.size = jB := ⟨_, rfl⟩
 rw [hoB, htB, hsB, hjB] at h3
 have hmA := hRA.1.lt
 have hmK := hRK.1.lt
 have HO := Lib.hid (show (mA < mK ∧ mK < jB ∧ jB < sB ∧ sB < tB ∧ tB < oB) ∧ w2.heap.size = jB by omega)
 rw [hoB, htB, hsB, hjB]
 clear hoB htB hsB hjB
 refine calls_str (s' := textX) (by kernel_rfl) ?_
 refine (c_lines textX w3 hX0.1 hX0.2.1 (hT.ext (Ext.trans hx1 (Ext.trans hx2 hx3)))).mono ?_
 rintro e w4 ⟨vX, vsX, rfl, hrow, hwd, hx4⟩
 rw [words_list] at hrow hwd
 have hrow : w4.ownsRow w3.heap.size 40 1 vX linesX.length vsX := hrow
 have hwd : Wds w3.heap.size w4 vsX linesX := hwd
 obtain ⟨pX, capX, rfl⟩ := own_slice hrow
 have hRX := rws_of hrow hwd
 clear hrow hwd
 have hL3 : LdSt w3 w.heap.size mA mK jB sB oB tB kvA kvK [] [] [] apartT alsoT (.slice none 0 0) :=
  ⟨h3.2.2.1, hRA.ext (Ext.trans hx2 hx3), (hRK.ext hx3).lower hx1.sz, ⟨#[], 0, h3.1, rfl, by simp, by simp⟩, ⟨#[], 0, h3.2.1, rfl, by simp, by simp⟩, ⟨#[], 0, h3.2.2.2, rfl, by simp, by simp⟩⟩
 have hL4 := hL3.ext hx4
 have hO4 := hL4.o
 have HL4 := Lib.hid hL4
 have HXW := Lib.hid (show Ext w w4 ∧ w.heap.size ≤ w2.heap.size ∧ w.heap.size ≤ mA from ⟨Ext.trans (Ext.trans hx1 hx2) (Ext.trans hx3 hx4), (Ext.trans hx1 hx2).sz, hnA⟩)
 clear h3 hRA hRK hL3 hL4 hx1 hx2 hx3 hx4 hmA hmK hnA hnK
 have HX := Lib.hid hX0
 obtain ⟨LX, hLX⟩ : ∃ LX, linesX = LX := ⟨_, rfl⟩
 have HLX := Lib.hid hLX
 rw [hLX] at HX hRX ⊢
 have hlX : LX.length ≤ 1000 := by rw [← hLX]; decide +kernel
 clear hLX
 go_wp2_with fail
 go_loopw [20] (fun iv W => ∃ i : Nat, iv = .int .i64 (i : Nat) ∧ i ≤ LX.length ∧ MapIs W oB (ones ((LX.map keyOfL).take i)) ∧ w4.grownBy W (some oB)) (fun iv _ => LX.length + 1 - (intOf iv).toNat)
 case atStart => exact ⟨0, rfl, by omega, hO4, World.grownBy.refl _ _⟩
 case round =>
  obtain ⟨i, rfl, hi, hM, hg⟩ := hrel
  by_cases hlt : i < LX.length
  ·have hlI : ((i : Nat) : Int) < (LX.length : Nat) := by omega
   have hd : decide (i < LX.length) = true := decide_eq_true hlt
   obtain ⟨rb, b, rfl, -, hc, hbW⟩ := hRX.kept hO4.nocell hg i hlt
   obtain ⟨ws, hws⟩ : ∃ ws, LX[i] = ws := ⟨_, rfl⟩
   obtain ⟨g2, gh⟩ := HX.out.2.2.1 ws (by rw [← hws]; exact List.getElem_mem hlt)
   rw [hws] at hc hbW
   obtain ⟨k, xs, rfl⟩ : ∃ k xs, ws = k :: xs := by cases ws with
    | nil => simp at g2
    | cons k xs => exact ⟨k, xs, rfl⟩
   have hc0 : wr.cell? ⟨b, 0, none⟩ = some (.string ⟨k.toArray⟩) := (cell_blk hbW 0).trans (by simp)
   rw [List.length_cons] at hc
   obtain ⟨kz, hkz⟩ : ∃ kz : Int, ((hexV k : Nat) : Int) = kz := ⟨_, rfl⟩
   have hkb := hex_le (gh k (by simp))
   rw [hkz] at hkb
   have hk0 : 0 ≤ kz := by omega
   have HKW := Lib.hid (gh k (by simp))
   have HKZ := Lib.hid hkz
   have HM := Lib.hid hM
   have HWS := Lib.hid hws
   have hx1' : (1 : Int) ≤ (xs.length : Nat) + 1 := by omega
   clear hbW gh g2 hkz hM hws
   go_wp2_with fail
   refine (c_hexW k _ HKW.out).mono ?_
   rintro e w5 ⟨rfl, hx5⟩
   rw [HKZ.out]
   have hM5 := HM.out.ext hx5
   have hput := hM5.put (int_keyed Tryz.underlying21) Tryz.underlying101 (x := .int .i32 kz) (v := .int .i64 1) (ones_keys fun r hr => by
     obtain ⟨ws, hw, rfl⟩ := List.mem_map.1 (List.mem_of_mem_take hr)
     exact keyL_le (HX.out.2.2.1 ws hw)) (key_i32 hk0 (by omega)) (by
    intro p hp e2
    obtain ⟨r, hr, rfl⟩ := List.mem_map.1 hp
    obtain ⟨j, hj, rfl⟩ := List.mem_iff_getElem.1 hr
    have hj' : j < i := by simp at hj; omega
    have hn := List.pairwise_iff_getElem.1 HX.out.2.2.2 j i (by simp; omega) (by simp; omega) hj'
    simp only [List.getElem_map, HWS.out] at hn
    have e3 : keyOfL LX[j] = kz := by simpa using e2
    rw [← HKZ.out] at e3
    unfold keyOfL at e3
    exact hn (by simp only [List.headD_cons]; omega))
   obtain ⟨w6, hrun, hM6, hg6, hs6⟩ := hput
   have hg7 : w4.grownBy w6 (some oB) := (hg.trans ⟨hx5.os, hx5.tape, hx5.output, hx5.size, fun k hk _ => hx5.block k hk⟩).trans hg6
   have HM6 := Lib.hid (show MapIs w6 oB (ones ((LX.map keyOfL).take (i + 1))) from by
    rw [List.take_add_one, List.getElem?_map, List.getElem?_eq_getElem hlt, HWS.out]
    simpa [ones, keyOfL, HKZ.out] using hM6)
   clear hM6 hg6 hs6 hM5 hx5 hc0 hc
   go_wp2_with fail
   go_roundw
   case rel => exact ⟨i + 1, by simp, by omega, HM6.out, hg7⟩
   case measure => simp [intOf]; omega
  ·have hd : decide (i < LX.length) = false := decide_eq_false hlt
   obtain rfl : i = LX.length := by omega
   rw [List.take_of_length_le (by simp)] at hM
   have hL5 := HL4.out.turnO hg (by have := HO.out; omega) hM
   have HG5 := Lib.hid hg
   obtain ⟨w5, rfl⟩ : ∃ w5, w5 = wr := ⟨wr, rfl⟩
   have y0 := cell_blk hL5.t 0
   simp only [List.getElem?_toArray, List.getElem?_cons_zero] at y0
   have HL5 := Lib.hid hL5
   have hmA5 := hL5.a.1
   clear hM hL5 hO4 hg hRX
   go_wp2_with (at_range; refine wpList_range_is (by rfl) (.tmp 33) (by rfl) Tryz.underlying98 (by rfl) hmA5 ?_; intro w6 hr6 hg6 hs6)
   obtain ⟨rB, hrB⟩ : ∃ rB, w5.heap.size = rB := ⟨_, rfl⟩
   have ho5 := HL5.out.o.lt
   have HRB := Lib.hid (show oB < rB by omega)
   have hL6 := HL5.out.ext (show Ext w5 w6 from ⟨hg6.os, hg6.tape, hg6.output, hg6.size, fun k hk => hg6.block k hk (by simp)⟩)
   have hE6 : Ext w w6 := Below.grown (Below.grown HXW.out.1 HG5.out HXW.out.1.sz (fun k e => by have := HXW.out; have := HO.out; cases e; omega)) hg6 (Nat.le_trans HXW.out.1.sz HG5.out.size) (fun k e => by cases e)
   rw [hrB] at hr6 ⊢
   clear hmA5 y0 hg6 hs6 hrB ho5
   obtain ⟨EA, hEA⟩ : ∃ EA, apartT = EA := ⟨_, rfl⟩
   have HEA := Lib.hid hEA
   have HGE := Lib.hid goodEA
   rw [hEA] at HL5 hL6 HGE
   rw [HLX.out] at HGE
   have HKL := Lib.hid (show ∀ r ∈ LX.map keyOfL, 0 ≤ r ∧ r < 16777216 from fun r hr => by
    obtain ⟨ws, hw, rfl⟩ := List.mem_map.1 hr
    exact keyL_le (HX.out.2.2.1 ws hw))
   clear HL5
   go_wp2_with fail
   go_frame
   go_loopw [] (fun W => ∃ (I D : List Nat) (S : List Int), MRng W mA rB kvA I ∧ Hid (D.Nodup ∧ ∀ i, i ∈ D ↔ i < kvA.length ∧ i ∉ I) ∧ LdSt W w.heap.size mA mK jB sB oB tB kvA kvK ((D.filterMap (jAt (LX.map keyOfL) EA)).map encJ) (ones S) (ones (LX.map keyOfL)) EA alsoT (.slice none 0 0) ∧ Hid (S.Nodup ∧ ∀ k, k ∈ S ↔ ∃ a r, ((a, k), r) ∈ D.filterMap (jAt (LX.map keyOfL) EA)) ∧ Ext w W ∧ rB < W.heap.size) (fun W => W.rangeLeft mA rB)
   case atStart => exact ⟨_, [], [], hr6, Lib.hid ⟨List.nodup_nil, fun i => by simp⟩, hL6, Lib.hid ⟨List.nodup_nil, fun k => by simp⟩, hE6, hr6.lt.2.1⟩
   case round =>
    clear hr6 hL6 hE6
    obtain ⟨I, D, S, hr, hD, hL, hS, hE, hlB⟩ := hrel
    have HGW := Lib.hid (show w.heap.size ≤ rB ∧ w.heap.size ≤ wr.heap.size from ⟨by have := HXW.out; have := HO.out; have := HRB.out; omega, hE.size⟩)
    have HRN := Lib.hid (show oB < rB ∧ (mA < mK ∧ mK < jB ∧ jB < sB ∧ sB < tB ∧ tB < oB) from ⟨HRB.out, HO.out.1⟩)
    go_wp2_with (at_next; refine wpList_next_is (by rfl) (.tmp 34) (by rfl) (by rfl) hr (fun hdone => Hid.out ?_) (fun i hi w7 hiI hr7 hlt7 hg7 hs7 hen => Hid.out ?_))
    ·refine Lib.hid ?_
     go_wp2_with fail
     refine calls_str (s' := textO) (by kernel_rfl) ?_
     refine (c_lines textO wr hO0.1 hO0.2.1 (hT.ext hE)).mono ?_
     rintro e w8 ⟨vO, vsO, rfl, hrow8, hwd8, hx8⟩
     rw [words_list] at hrow8 hwd8
     have hrow8 : w8.ownsRow wr.heap.size 40 1 vO linesO.length vsO := hrow8
     have hwd8 : Wds wr.heap.size w8 vsO linesO := hwd8
     obtain ⟨pO, capO, rfl⟩ := own_slice hrow8
     have hRO := rws_of hrow8 hwd8
     have HJL := Lib.hid hD
     have HL8 := hL.ext hx8
     have hE8 := Ext.trans hE hx8
     have hn8 := HGW.out.2
     have hn8 : w.heap.size ≤ w8.heap.size := by have := hx8.sz; omega
     have HSZ := Lib.hid hn8
     clear hrow8 hwd8 hL hE hr
     have HO0 := Lib.hid hO0
     obtain ⟨LO, hLO⟩ : ∃ LO, linesO = LO := ⟨_, rfl⟩
     have HLO := Lib.hid hLO
     rw [hLO] at HO0 hRO ⊢
     have hlO : LO.length ≤ 1000 := by rw [← hLO]; decide +kernel
     clear hLO
     go_wp2_with fail
     go_loopw [70] (fun iv W => ∃ (i : Nat) (v : Value), iv = .int .i64 (i : Nat) ∧ i ≤ LO.length ∧ LdSt W w.heap.size mA mK jB sB oB tB kvA kvK ((D.filterMap (jAt (LX.map keyOfL) EA)).map encJ) (ones S) (ones (LX.map keyOfL)) EA alsoT v ∧ W.ownsRow w8.heap.size 115 3 v i (spanCells ((LO.take i).map ordOf)) ∧ w8.grownBy W (some tB) ∧ Ext w W) (fun iv _ => LO.length + 1 - (intOf iv).toNat)
     case atStart => exact ⟨0, _, rfl, by omega, HL8, World.ownsRow_nil _ _ _ _, World.grownBy.refl _ _, hE8⟩
     case round =>
      obtain ⟨i, v, rfl, hi, hL, hown, hg0, hE⟩ := hrel
      have hRO := hRO.byT HL8 hg0
      have HG0 := Lib.hid hg0
      clear HL8 hE8 hg0
      by_cases hlt3 : i < LO.length
      ·have hlI : ((i : Nat) : Int) < (LO.length : Nat) := by omega
       have hd3 : decide (i < LO.length) = true := decide_eq_true hlt3
       have HRO := Lib.hid hRO
       obtain ⟨rb, b, hpe, hrl, hc, hbW⟩ := hRO i hlt3
       subst hpe
       obtain ⟨wa, wb, wc, n, hws, hwa, hwb, hwcl, hwcn, hn0, hn1⟩ := HO0.out.2.2 LO[i] (List.getElem_mem hlt3)
       rw [hws] at hc hbW
       have HWS := Lib.hid hws
       have HWA := Lib.hid hwa
       have HWB := Lib.hid hwb
       have HWC := Lib.hid (And.intro hwcl hwcn)
       have HN := Lib.hid (And.intro hn0 hn1)
       have c2 : wr.cell? ⟨b, 2, none⟩ = some (.string ⟨wc.toArray⟩) := (cell_blk hbW 2).trans rfl
       have HBW := Lib.hid hbW
       have HL := Lib.hid hL
       have HE := Lib.hid hE
       have HOWN := Lib.hid hown
       have hbl := blk_lt hbW
       simp only [List.length_cons, List.length_nil] at hc
       clear hws hwa hwb hwcl hwcn hn0 hn1 hbW hL hE hown hRO
       go_wp2_with fail
       refine (Tryz.strconv_Atoi ⟨wc.toArray⟩ n (by simpa [ByteArray.size] using HWC.out.1) (by simpa using HWC.out.2) _).mono ?_
       rintro e w9 ⟨rfl, t9, hw9⟩
       have hx9 : Ext wr w9 := by rw [hw9]; exact (bytes_of _ _ _).1
       clear hw9 c2
       go_wp2_with fail
       have hL9 := HL.out.ext hx9
       have y3 : w9.cell? ⟨tB, 3, none⟩ = some v := (cell_blk hL9.t 3).trans rfl
       have hB9 := hx9.blk HBW.out
       have c0 : w9.cell? ⟨b, 0, none⟩ = some (.string ⟨wa.toArray⟩) := (cell_blk hB9 0).trans rfl
       have c1 : w9.cell? ⟨b, 1, none⟩ = some (.string ⟨wb.toArray⟩) := (cell_blk hB9 1).trans rfl
       have m0 : ∀ w', EOn (fun a => a.block = tB ∨ a.block = b) w9 w' → w'.cell? ⟨tB, 3, none⟩ = some v := fun w' hx => hx.cell (.inl rfl) y3
       have m1 : ∀ w', EOn (fun a => a.block = tB ∨ a.block = b) w9 w' → w'.cell? ⟨b, 0, none⟩ = some (.string ⟨wa.toArray⟩) := fun w' hx => hx.cell (.inr rfl) c0
       have m2 : ∀ w', EOn (fun a => a.block = tB ∨ a.block = b) w9 w' → w'.cell? ⟨b, 1, none⟩ = some (.string ⟨wb.toArray⟩) := fun w' hx => hx.cell (.inr rfl) c1
       obtain ⟨za, hza⟩ : ∃ z : Int, ((hexV wa : Nat) : Int) = z := ⟨_, rfl⟩
       obtain ⟨zb, hzb⟩ : ∃ z : Int, ((hexV wb : Nat) : Int) = z := ⟨_, rfl⟩
       have HCA : Hid (∀ w', Calls Tryz.prog 63 #[.string ⟨wa.toArray⟩] w' fun e w'' => e = .returned (.int .i32 za) ∧ Ext w' w'') := Lib.hid fun w' => by rw [← hza]; exact c_hexW wa w' HWA.out
       have HCB : Hid (∀ w', Calls Tryz.prog 63 #[.string ⟨wb.toArray⟩] w' fun e w'' => e = .returned (.int .i32 zb) ∧ Ext w' w'') := Lib.hid fun w' => by rw [← hzb]; exact c_hexW wb w' HWB.out
       have HZ := Lib.hid (And.intro hza hzb)
       have HL9 := Lib.hid hL9
       have HB9 := Lib.hid hB9
       clear hza hzb hL9 hB9 y3 c0 c1
       refine wp_lexN ((fun a => a.block = tB ∨ a.block = b)) [true, true, true, true, true, true, true, true, true, true, true, true, true, true, true, false, false] (by kernel_rfl) (by kernel_rfl) ?_
       repeat first
        | refine wpG_move' ?_
        | refine wpG_assign' ?_
        | refine wpG_val' ?_
        | refine wpG_no' ?_
       refine wpG_call (by rfl) (fun w' hx => (by go_simp <;> first | exact rfl | exact ⟨rfl, rfl⟩)) (fun w' hx => HCA.out w') (by simp only [Act.put, List.setIfInBounds_toArray, List.set_cons_succ, List.set_cons_zero]; rfl) ?_
       repeat first
        | refine wpG_move' ?_
        | refine wpG_assign' ?_
        | refine wpG_val' ?_
        | refine wpG_no' ?_
       refine wpG_call (by rfl) (fun w' hx => (by go_simp <;> first | exact rfl | exact ⟨rfl, rfl⟩)) (fun w' hx => HCB.out w') (by simp only [Act.put, List.setIfInBounds_toArray, List.set_cons_succ, List.set_cons_zero]; rfl) ?_
       repeat first
        | refine wpG_move' ?_
        | refine wpG_assign' ?_
        | refine wpG_val' ?_
        | refine wpG_no' ?_
       clear m0 m1 m2
       refine wpG_do (by rfl) (fun w10 hx10 K hK => ?_)
       go_wp2_with fail
       refine ⟨EOn.of_ext ((Ext.refl w10).alloc _), ?_⟩
       have hx11 : Ext w9 (w10.alloc (.cells #[.int .i32 za, .int .i32 zb, .int .i64 n] 115)) := hx10.alloc _
       have hnew := World.news_of_block (World.alloc_heap_new w10 (.cells #[.int .i32 za, .int .i32 zb, .int .i64 n] 115))
       generalize w10.alloc (.cells #[.int .i32 za, .int .i32 zb, .int .i64 n] 115) = w11 at hx11 hnew ⊢
       generalize w10.heap.size = gb at hnew ⊢
       clear hx10
       refine wpG_do (by rfl) (fun w12 hx12 K hK => ?_)
       refine wp_alone (ops := #[]) (by rfl) (fun a w h => by cases h.1) ?_
       have hx912 := Ext.trans hx11 hx12
       have hx012 := Ext.trans hx9 hx912
       have hrow12 := ownsRow_ext HOWN.out hx012
       have hgs := HG0.out.size
       obtain ⟨i0, hi0, hz0, hz1, hz3⟩ := info_parts infoSp
       refine wpList_append_own _ rfl (.tmp 85) (.tmp 96) 102 rfl w8.heap.size 115 i0 (.agg #[.int .i32 0, .int .i32 0, .int .i64 0]) 3 16 Tryz.underlying102 hi0 hz0 hz1 hz3 rfl (by decide) v i (spanCells ((LO.take i).map ordOf)) rfl hrow12 ⟨gb, 0, none⟩ 1 1 [.int .i32 za, .int .i32 zb, .int .i64 n] rfl rfl (fun j u hu => hx12.cell (hnew j u hu)) (by intro u hu; simp at hu; rcases hu with rfl | rfl | rfl <;> rfl) (by unfold maxLen; omega) (by omega) (Nat.le_trans hgs hx012.sz) ?_
       intro v' w13 hown13 hgrow13 _
       have hL12 := HL.out.ext hx012
       have hbn : ∀ a : Addr, a.block = tB ∨ a.block = b → v.ownBlock ≠ some a.block := by
        intro a ha e
        rcases hrow12.2 with ⟨rfl, _⟩ | ⟨g, cp, cur, rfl, _, hgb, _⟩
        ·simp [Value.ownBlock] at e
        ·obtain rfl : g = a.block := by simpa [Value.ownBlock] using e
         rcases ha with ha | ha
         ·have := hL12.t
          rw [← ha, hgb] at this
          simp at this
         ·have := hx912.blk HB9.out
          rw [← ha, hgb] at this
          simp at this
       refine hK _ _ ⟨EOn.of_grown hgrow13 (fun a ha _ => (hbn a ha).symm), ?_⟩
       clear hK hbn
       have hL13 := hL12.append hrow12 hgrow13
       have hg13 : w8.grownBy w13 (some tB) := ⟨hgrow13.os.trans (hx012.os.trans HG0.out.os), hgrow13.tape.trans (hx012.tape.trans HG0.out.tape), hgrow13.output.trans (hx012.output.trans HG0.out.output), Nat.le_trans hgs (Nat.le_trans hx012.sz hgrow13.size), fun k hk hne => (hgrow13.block k (Nat.lt_of_lt_of_le hk (Nat.le_trans hgs hx012.sz)) (fun e => by
        have := (hrow12.lt k e.symm).1
        omega)).trans ((hx012.block k (Nat.lt_of_lt_of_le hk hgs)).trans (HG0.out.block k hk hne))⟩
       have hE13 : Ext w w13 := Below.grown (Ext.trans HE.out hx012) hgrow13 (Ext.trans HE.out hx012).size (fun k e => by
        have h1 := (hrow12.lt k e).1
        have h2 := HSZ.out
        omega)
       obtain ⟨g', cap', rfl⟩ := ownsRow_succ hown13
       have hsp : spanCells ((LO.take i).map ordOf) ++ [.int .i32 za, .int .i32 zb, .int .i64 n] = spanCells ((LO.take (i + 1)).map ordOf) := by
        rw [List.take_add_one, List.getElem?_eq_getElem hlt3, HWS.out]
        simp [spanCells, ordOf, spanV, HZ.out.1, HZ.out.2, HWC.out.2]
       rw [hsp] at hown13
       have HO13 := Lib.hid (And.intro hown13 (And.intro hg13 hE13))
       have HL13 := Lib.hid hL13
       clear hsp hown13 hg13 hE13 hL13 hL12 hgrow13 hrow12 hnew hx11 hx12 hx912 hgs hx9
       refine wpG_end (fun w14 hx14 => ?_)
       have hL14 := HL13.out.ext hx14
       have y3 : w14.cell? ⟨tB, 3, none⟩ = some v := (cell_blk hL14.t 3).trans rfl
       have f3 := frz_blk hL14.t 3
       have hst := hL14.store (.slice (some ⟨g', 0, none⟩) (i + 1) cap')
       have hown14 := ownsRow_ext HO13.out.1 hx14
       have hown15 := hown14.kept hst.2 (.inr (by
        intro e
        obtain rfl : g' = tB := by simpa [Value.ownBlock] using e
        rcases hown14.2 with ⟨e, _⟩ | ⟨g, cp, cur, e, _, hgb, _⟩
        ·cases e
        ·cases e
         have := hL14.t
         rw [hgb] at this
         simp at this))
       have HF := Lib.hid (And.intro hst.1 (And.intro hown15 (And.intro ((HO13.out.2.1.trans (ext_grown hx14 (some tB))).trans hst.2) (Below.grown (Ext.trans HO13.out.2.2 hx14) hst.2 (Ext.trans HO13.out.2.2 hx14).size (fun k e => by cases e; have := HXW.out; have := HO.out; omega)))))
       clear hL14 hst hown14 hown15 hx14 hx012
       go_wp2_with fail
       refine gQ_normal ?_
       go_wp2_with fail
       go_roundw
       case rel => exact ⟨i + 1, _, by simp, by omega, HF.out.1, HF.out.2.1, HF.out.2.2.1, HF.out.2.2.2⟩
       case measure => simp [intOf]; omega
      ·have hd3 : decide (i < LO.length) = false := decide_eq_false hlt3
       obtain rfl : i = LO.length := by omega
       rw [List.take_of_length_le (Nat.le_refl _)] at hown
       have HL := Lib.hid hL
       have HOWN := Lib.hid hown
       have hE' := Lib.hid hE
       have hnn := Lib.hid hn8
       have hDp : Hid (∀ q, q ∈ D.filterMap (jAt (LX.map keyOfL) EA) ↔ q ∈ EA.filterMap (jnE (LX.map keyOfL))) := Lib.hid (perm_mem (by rw [← HL.out.a.2.1]; exact fun i => ⟨fun h => ((HJL.out.2 i).1 h).1, fun h => (HJL.out.2 i).2 ⟨h, hdone i⟩⟩))
       clear hL hown hE hRO
       go_wp2_with fail
       go_ret
       refine ⟨tB, rfl, ⟨mA, mK, jB, sB, kvA, kvK, _, S, v, HL.out.t, ?_, HL.out.k, ⟨HL.out.j, _, rfl, ?_⟩, ⟨HL.out.s, fun k => ?_⟩, ?_⟩, hE'.out⟩
       ·rw [HEA.out]; exact HL.out.a
       ·rw [HEA.out, HLX.out]; exact hDp.out
       ·rw [HEA.out, HLX.out, hS.out.2 k]
        exact ⟨fun ⟨a, r, h⟩ => ⟨a, r, (hDp.out _).1 h⟩, fun ⟨a, r, h⟩ => ⟨a, r, (hDp.out _).2 h⟩⟩
       ·rw [HLO.out]; exact own_lower HOWN.out hnn.out
    ·refine Lib.hid ?_
     have hL7 := hL.turnR hr.nocell hg7 (by have := HRN.out; omega)
     have hRA := hL7.a
     have hi' : i < EA.length := by rw [← hRA.2.1]; exact hi
     obtain ⟨v, hkv, hrow⟩ := hRA.2.2 i hi hi'
     obtain ⟨r, es, hes⟩ : ∃ r es, EA[i] = (r, es) := ⟨EA[i].1, EA[i].2, rfl⟩
     rw [hes] at hkv hrow
     simp only at hkv hrow
     rw [hkv] at hen ⊢
     obtain ⟨pE, capE, rfl⟩ := own_slice hrow
     have hr7 := hr7 (I.filter (· ≠ i)) (fun j => by simp)
     have hO7 := hL7.o
     have HL7 := Lib.hid hL7
     have HES := Lib.hid hes
     have HR7 := Lib.hid hr7
     have HRW := Lib.hid hrow
     have hgE := HGE.out.1 (r, es) (by rw [← hes]; exact List.getElem_mem hi')
     have hlk := ones_look hO7 HKL.out hgE.1.1 hgE.1.2
     have HGR := Lib.hid hgE
     have hD' := Lib.hid (D_step hD.out hi hiI)
     have hE7 : Ext w w7 := Below.grown hE hg7 HGW.out.2 (fun k e => by cases e; exact HGW.out.1)
     clear hL hL7 hr hRA hes hr7 hrow hkv hgE
     by_cases h2 : es.length = 2
     ·obtain ⟨a, b, rfl⟩ : ∃ a b, es = [a, b] := by
       match es, h2 with
       | [a, b], _ => exact ⟨a, b, rfl⟩
      by_cases hro : r ∈ LX.map keyOfL
      ·rw [if_pos hro] at hlk
       have hj : jAt (LX.map keyOfL) EA i = none := by
        unfold jAt
        rw [List.getElem?_eq_getElem hi', HES.out]
        simp [jnE, hro]
       go_wp2_with fail
       exact ⟨⟨_, D ++ [i], S, HR7.out, hD', by rw [jAt_none_step hj]; exact HL7.out, by rw [jAt_none_step hj]; exact hS, hE7, by rw [hs7]; exact hlB⟩, hlt7⟩
      ·rw [if_neg hro] at hlk
       have hj : jAt (LX.map keyOfL) EA i = some ((a, b), r) := by
        unfold jAt
        rw [List.getElem?_eq_getElem hi', HES.out]
        simp [jnE, hro]
       have HJ := Lib.hid hj
       have HNE := Lib.hid (show ∀ p ∈ (D.filterMap (jAt (LX.map keyOfL) EA)).map encJ, p.1 ≠ pairV (a, b) from by
        intro p hp e
        obtain ⟨q, hq, rfl⟩ := List.mem_map.1 hp
        obtain ⟨j, hj1, hj2⟩ := List.mem_filterMap.1 hq
        exact jAt_ne HGE.out.2 (show j ≠ i from fun e => by subst e; exact ((hD.out.2 _).1 hj1).2 hiI) hj2 hj (pairV_inj e))
       clear hj hro
       go_wp2_with fail
       clear hlk
       have y2 : w7.cell? ⟨tB, 2, none⟩ = some (.map (some jB)) := (cell_blk HL7.out.t 2).trans rfl
       obtain ⟨gE, rfl, _, hgl, hgc⟩ := own_at HRW.out (by simp)
       have c0 := hgc 0 (by simp)
       have c1 := hgc 1 (by simp)
       simp [i32s] at c0 c1
       have HGC := Lib.hid (And.intro c0 c1)
       clear hgc
       have m1 : ∀ w', EOn (fun a => a.block = tB ∨ a.block = gE) w7 w' → w'.cell? ⟨tB, 2, none⟩ = some (.map (some jB)) := fun w' hx => hx.cell (.inl rfl) y2
       have m2 : ∀ w', EOn (fun a => a.block = tB ∨ a.block = gE) w7 w' → w'.cell? ⟨gE, 0, none⟩ = some (.int .i32 a) := fun w' hx => hx.cell (.inr rfl) c0
       have m3 : ∀ w', EOn (fun a => a.block = tB ∨ a.block = gE) w7 w' → w'.cell? ⟨gE, 1, none⟩ = some (.int .i32 b) := fun w' hx => hx.cell (.inr rfl) c1
       refine wp_lex ((fun a => a.block = tB ∨ a.block = gE)) [true, true, true, true, true, true, true, true, true, true, true, true] (by kernel_rfl) (by kernel_rfl) ?_
       repeat first
        | refine wpG_move' ?_
        | refine wpG_assign' ?_
        | refine wpG_val' ?_
        | refine wpG_no' ?_
       have HY := Lib.hid y2
       clear y2 c0 c1 m1 m2 m3
       refine wpG_end (fun w8 hx8 => ?_)
       have hL8 := HL7.out.ext hx8
       have hput := hL8.j.put keyedP Tryz.underlying100 (x := pairV (a, b)) (v := .int .i32 r) (encJ_keys HGE.out D) (keyPr (a, b) ⟨by have := HGR.out.2 a (by simp); omega, by have := HGR.out.2 b (by simp); omega⟩).choose_spec HNE.out
       obtain ⟨w9, hrun, hM9, hg9, hs9⟩ := hput
       have hL9 := Lib.hid (hL8.turnJ hg9 (by have := HRN.out; omega) (kvJ' := ((D ++ [i]).filterMap (jAt (LX.map keyOfL) EA)).map encJ) (by rw [jAt_some_step HJ.out, List.map_append]; exact hM9))
       have hgE : gE ≠ jB := fun e => hL8.j.nocell.1 0 (.int .i32 b) (by rw [← e]; exact absurd hL8.j.nocell (by rw [← e]; exact fun h => h.1 0 _ (hx8.cell HGC.out.1)))
       have hHG := Lib.hid (And.intro hL8.o.lt HGC.out)
       have hRW9 : w9.ownsRow w.heap.size 21 1 (.slice (some ⟨gE, 0, none⟩) 2 capE) 2 (i32s [a, b]) := (ownsRow_ext HRW.out hx8).kept hg9 (.inr (by simpa [Value.ownBlock] using hgE))
       have hR9 := (HR7.out.ext hx8).1.kept hg9 (by have := HRN.out; simp; omega) (by have := HRN.out; simp; omega)
       have HR9 := Lib.hid (And.intro hR9.1 (hR9.2.trans (HR7.out.ext hx8).2))
       have hE9 := Lib.hid (Below.grown (Ext.trans hE7 hx8) hg9 (Ext.trans hE7 hx8).size (fun k e => by cases e; have := HXW.out; have := HO.out; omega))
       have hs9' := Lib.hid (show rB < w9.heap.size by have := hx8.sz; omega)
       have HR7 := 0
       have hE7 := 0
       clear hL8 hM9 HR7 hR9 hE7 hg9 HGC hx8 HNE HRW
       go_wp2_with fail
       clear hrun
       refine gQ_normal ?_
       have y2 : w9.cell? ⟨tB, 4, none⟩ = some (.map (some sB)) := (cell_blk hL9.out.t 4).trans rfl
       obtain ⟨_, e0, _, hgl, hgc⟩ := own_at hRW9 (by simp)
       cases e0
       have c1 := hgc 1 (by simp)
       simp [i32s] at c1
       have HRW9 := Lib.hid hRW9
       clear hgc hRW9 hgE
       go_wp2_with fail
       have m1 : ∀ w', EOn (fun a => a.block = tB ∨ a.block = gE) w9 w' → w'.cell? ⟨tB, 4, none⟩ = some (.map (some sB)) := fun w' hx => hx.cell (.inl rfl) y2
       have m3 : ∀ w', EOn (fun a => a.block = tB ∨ a.block = gE) w9 w' → w'.cell? ⟨gE, 1, none⟩ = some (.int .i32 b) := fun w' hx => hx.cell (.inr rfl) c1
       refine wp_lex ((fun a => a.block = tB ∨ a.block = gE)) [true, true, true, true, true, true, true] (by kernel_rfl) (by kernel_rfl) ?_
       repeat first
        | refine wpG_move' ?_
        | refine wpG_assign' ?_
        | refine wpG_val' ?_
        | refine wpG_no' ?_
       clear y2 c1 m1 m3
       refine wpG_end (fun w10 hx10 => ?_)
       have hL10 := hL9.out.ext hx10
       have hSr := Lib.hid (show ∀ r ∈ S, 0 ≤ r ∧ r < 16777216 from fun k hk => by
        obtain ⟨a', r', h⟩ := (hS.out.2 k).1 hk
        obtain ⟨j, _, hj⟩ := List.mem_filterMap.1 h
        exact (jAt_range HGE.out hj).1.2)
       have hbr := HGR.out.2 b (by simp)
       obtain ⟨w11, hrun, hM11, hg11, hs11⟩ := ones_put hL10.s hSr.out hS.out.1 hbr.1 hbr.2
       have hL11 := Lib.hid (hL10.turnS hg11 (by have := HRN.out; omega) hM11)
       have hR11 := (HR9.out.1.ext hx10).1.kept hg11 (by have := HRN.out; simp; omega) (by have := HRN.out; simp; omega)
       have HR11 := Lib.hid (And.intro hR11.1 (hR11.2.trans ((HR9.out.1.ext hx10).2.trans HR9.out.2)))
       have hE11 := Lib.hid (Below.grown (Ext.trans hE9.out hx10) hg11 (Ext.trans hE9.out hx10).size (fun k e => by cases e; have := HXW.out; have := HO.out; omega))
       have hs11' := Lib.hid (show rB < w11.heap.size by have := hx10.sz; have := hs9'.out; omega)
       have hS' := Lib.hid (S_step hS.out a b r)
       clear hL10 hM11 hR11 hg11 hx10 hbr
       go_wp2_with fail
       clear hrun
       refine gQ_normal ?_
       go_wp2_with fail
       exact ⟨⟨_, D ++ [i], _, HR11.out.1, hD', hL11.out, by rw [jAt_some_step HJ.out]; exact hS', hE11.out, hs11'.out⟩, by rw [HR11.out.2]; exact hlt7⟩
     ·have hj : jAt (LX.map keyOfL) EA i = none := by
       unfold jAt
       rw [List.getElem?_eq_getElem hi', HES.out]
       match es, h2 with
       | [], _ => rfl
       | [a], _ => rfl
       | a :: b :: c :: t, _ => rfl
      have h2' : ((es.length : Nat) : Int) ≠ 2 := by omega
      have h3' : (((es.length : Nat) : Int) == 2) = false := by simpa using h2'
      have hlk := 0
      clear hlk h2
      go_wp2_with fail
      exact ⟨⟨_, D ++ [i], S, HR7.out, hD', by rw [jAt_none_step hj]; exact HL7.out, by rw [jAt_none_step hj]; exact hS, hE7, by rw [hs7]; exact hlB⟩, hlt7⟩
end Go.Proofs.YtokeamebcdhnpaaGreatDoor
