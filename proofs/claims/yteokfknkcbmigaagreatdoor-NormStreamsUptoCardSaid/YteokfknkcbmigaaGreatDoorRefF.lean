/-
 Where every text may be cut, as the document has it. The reference's stream: how it stands; what it keeps while another block turns. The reference's stream: written to. The reference's stream: closed. Both streams as they stand: the package's and the reference's.
-/
import Derived.Test.YteokfknkcbmigaaGreatDoorRefE
import Derived.Test.YteokfknkcbmigaaGreatDoorRefC
import Derived.Test.YteokfknkcbmigaaGreatDoorLawsA
import Derived.Test.YteokfknkcbmigaaGreatDoorRefM
import Derived.Test.YteokfknkcbmigaaGreatDoorWholes
section
namespace Go.Proofs.YteokfknkcbmigaaGreatDoor
open Go.RowKit Go.Rp Go.Shelf Go.Maps Go.Nm

theorem safe_bool (s : List UInt8) (k f : Int) : ∃ b : Bool, b = true ↔ SafeT s k f := by
 by_cases h : SafeT s k f
 ·exact ⟨true, by simp [h]⟩
 ·exact ⟨false, by simp [h]⟩
set_option maxRecDepth 100000 in
set_option maxHeartbeats 8000000 in
theorem c_Safes (s : ByteArray) (f k : Int) (w : World) (hT : Tabs w) : Calls Tryz.prog 4 #[.string s, .int .i64 f, .int .i64 k] w fun e w' => e = .returned (.bool true) ∧ Ext w w' := by
 by_cases hs : s.size ≤ 90
 ·have hsI : ¬ (90 : Int) < (s.size : Nat) := by omega
  have hsJ : ((s.size : Nat) : Int) ≤ 90 := by omega
  have H1 := Lib.hid (fun z b hb w2 hT2 => c_Safe s z f b w2 hT2 (by omega) hb)
  have H2 := Lib.hid (fun tB z b hb w2 h2 => c_rSafe tB s z f b w2 h2 (by omega) hb)
  clear hs
  go_enter Tryz.func4, Tryz.ntmps4
  go_wp2_with fail
  refine (c_rTables w).mono ?_
  rintro e w1 ⟨tB, rfl, hr1, hx1⟩
  have HX1 := Lib.hid (And.intro hx1 hr1)
  clear hx1 hr1
  go_wp2_with fail
  go_loopw [8] (fun iv W => ∃ z : Int, iv = .int .i64 z ∧ -1 ≤ z ∧ z ≤ (s.size : Nat) + 2 ∧ Ext w1 W) (fun iv _ => ((s.size : Nat) + 3 - intOf iv).toNat)
  case atStart => exact ⟨-1, rfl, by omega, by omega, Ext.refl _⟩
  case round =>
   obtain ⟨z, rfl, hz1, hz2, hx⟩ := hrel
   have HXR := Lib.hid hx
   clear hx
   by_cases hlt : z ≤ (s.size : Nat) + 1
   ·have hd : decide (z ≤ ((s.size : Nat) : Int) + 1) = true := decide_eq_true hlt
    obtain ⟨b, hb⟩ := safe_bool s.data.toList z f
    have HB := Lib.hid hb
    have hbb : (b != b) = false := by simp
    clear hb
    go_wp2_with fail
    refine (H1.out z b HB.out _ (hT.ext (HX1.out.1.trans HXR.out))).mono ?_
    rintro e w2 ⟨rfl, hx2⟩
    have HX2 := Lib.hid (HXR.out.trans hx2)
    clear hx2
    go_wp2_with fail
    refine (H2.out tB z b HB.out _ (HX1.out.2.mono HX2.out)).mono ?_
    rintro e w3 ⟨rfl, hx3⟩
    have HX3 := Lib.hid (HX2.out.trans hx3)
    clear hx3
    go_wp2_with fail
    exact ⟨⟨z + 1, rfl, by omega, by omega, HX3.out⟩, by simp only [intOf]; omega⟩
   ·have hd : decide (z ≤ ((s.size : Nat) : Int) + 1) = false := decide_eq_false hlt
    obtain ⟨b, hb⟩ := safe_bool s.data.toList k f
    have HB := Lib.hid hb
    have hbb : (b == b) = true := by simp
    clear hb
    go_wp2_with fail
    refine (H1.out k b HB.out _ (hT.ext (HX1.out.1.trans HXR.out))).mono ?_
    rintro e w2 ⟨rfl, hx2⟩
    have HX2 := Lib.hid (HXR.out.trans hx2)
    clear hx2
    go_wp2_with fail
    refine (H2.out tB k b HB.out _ (HX1.out.2.mono HX2.out)).mono ?_
    rintro e w3 ⟨rfl, hx3⟩
    have HX3 := Lib.hid (HX2.out.trans hx3)
    clear hx3
    have HX4 := Lib.hid (HX1.out.1.trans HX3.out)
    go_wp2_with fail
    refine (c_live w3 (hT.ext HX4.out)).mono ?_
    rintro e w9 ⟨rfl, hx9⟩
    have HX9 := Lib.hid (HX4.out.trans hx9)
    clear hx9
    go_wp2_with fail
    go_ret
    exact ⟨rfl, HX9.out⟩
 ·have hsI : (90 : Int) < (s.size : Nat) := by omega
  have HX0 := Lib.hid (Ext.refl w)
  go_enter Tryz.func4, Tryz.ntmps4
  go_wp2_with fail
  refine (c_live w (hT.ext HX0.out)).mono ?_
  rintro e w9 ⟨rfl, hx9⟩
  have HX9 := Lib.hid (HX0.out.trans hx9)
  clear hx9
  go_wp2_with fail
  go_ret
  exact ⟨rfl, HX9.out⟩
end Go.Proofs.YteokfknkcbmigaaGreatDoor
end

section
namespace Go.Proofs.YteokfknkcbmigaaGreatDoor
open Go.RowKit Go.Rp Go.Shelf Go.Maps Go.Nm

/-- But one block all stands. -/
def Kept (b : Nat) (W W' : World) : Prop := W.heap.size ≤ W'.heap.size ∧ ∀ c, c < W.heap.size → c ≠ b → W'.heap[c]? = W.heap[c]?
theorem Kept.refl (b : Nat) (W : World) : Kept b W W := ⟨Nat.le_refl _, fun _ _ _ => rfl⟩
theorem Kept.trans {b : Nat} {A B C : World} (h : Kept b A B) (k : Kept b B C) : Kept b A C :=
 ⟨Nat.le_trans h.1 k.1, fun c hc hn => (k.2 c (Nat.lt_of_lt_of_le hc h.1) hn).trans (h.2 c hc hn)⟩
theorem Kept.of_ext {b : Nat} {W W' : World} (h : Ext W W') : Kept b W W' := ⟨h.sz, fun c hc _ => Below.block h c hc⟩
theorem Kept.blk {b : Nat} {W W' : World} (h : Kept b W W') {c : Nat} {o : Obj} (hn : c ≠ b) (hc : W.heap[c]? = some o) : W'.heap[c]? = some o := (h.2 c (blk_lt hc) hn).trans hc
theorem Kept.cell {b : Nat} {W W' : World} (h : Kept b W W') {p : Addr} {v : Value} (hn : p.block ≠ b) (hc : W.cell? p = some v) : W'.cell? p = some v :=
 (World.cell?_of_block (h.2 p.block (World.block_lt_of_cell? _ _ hc) hn)).trans hc
theorem Kept.set (b i : Nat) (v : Value) (W : World) : Kept b W (W.setCell ⟨b, i, none⟩ v) := ⟨by rw [size_set]; omega, fun c _ hn => block_set W b i v c hn⟩
/-- A block that holds no row of runes. -/
def NoRune (b : Nat) (W : World) : Prop := (∀ x, W.cell? ⟨b, 0, none⟩ ≠ some (.int .i32 x)) ∧ (∀ x, W.cell? ⟨b, 1, none⟩ ≠ some (.int .i32 x)) ∧ ∀ c z, W.heap[b]? ≠ some (.cells c 55 z)
theorem RowAt.keep {b : Nat} {W W' : World} {v : Value} {l : List Nat} (h : RowAt W v l) (hk : Kept b W W') (hb : NoRune b W) : RowAt W' v l := by
 obtain ⟨q, c, rfl, h2⟩ := h
 refine ⟨q, c, rfl, fun hne => ?_⟩
 obtain ⟨g, rfl, hc⟩ := h2 hne
 have hgb : g ≠ b := by
  rintro rfl
  exact hb.2.1 _ (hc 0 (List.length_pos_iff.2 hne))
 exact ⟨g, rfl, fun k hk' => hk.cell hgb (hc k hk')⟩
theorem LTab.keep {b : Nat} {W W' : World} {v : Value} {L : List (List Nat)} (h : LTab W v L) (hk : Kept b W W') (hb : NoRune b W) : LTab W' v L := by
 obtain ⟨p, cap, rfl, h2⟩ := h
 refine ⟨p, cap, rfl, fun hne => ?_⟩
 obtain ⟨g, rfl, hc⟩ := h2 hne
 have hgb : g ≠ b := by
  rintro rfl
  obtain ⟨x, h1, -, -⟩ := hc 0 (List.length_pos_iff.2 hne)
  rw [Nat.zero_mul] at h1
  exact hb.1 _ h1
 refine ⟨g, rfl, fun i hi => ?_⟩
 obtain ⟨x, h1, h3, h4⟩ := hc i hi
 exact ⟨x, hk.cell hgb h1, hk.cell hgb h3, h4.keep hk hb⟩
theorem RTab.keep {b : Nat} {W W' : World} {tB : Nat} (h : RTab W tB) (hk : Kept b W W') (hb : NoRune b W) : RTab W' tB := by
 obtain ⟨vA, vK, vX, vO, h1, h2, h3, h4, h5⟩ := h.ex
 have hne : tB ≠ b := by
  rintro rfl
  exact hb.2.2 _ _ h1
 exact ⟨vA, vK, vX, vO, hk.blk hne h1, h2.keep hk hb, h3.keep hk hb, h4.keep hk hb, h5.keep hk hb⟩
/-- A text in memory, laid no earlier than a world. -/
def TxtAt (n : Nat) (W : World) (v : Value) (l : List UInt8) : Prop :=
 (l = [] ∧ v = .slice none 0 0) ∨ ∃ pb pc, v = .slice (some ⟨pb, 0, none⟩) l.length pc ∧ l.length ≤ pc ∧ n ≤ pb ∧ l ≠ [] ∧ (∃ cs, W.heap[pb]? = some (.cells cs 5 (0, 0))) ∧ ∀ j (h : j < l.length), W.cell? ⟨pb, j, none⟩ = some (.int .u8 l[j].toNat)
theorem TxtAt.keep {b n : Nat} {W W' : World} {v : Value} {l : List UInt8} (h : TxtAt n W v l) (hk : Kept b W W') (hb : b < n ∨ ∀ c z, W.heap[b]? ≠ some (.cells c 5 z)) : TxtAt n W' v l := by
 rcases h with h | ⟨pb, pc, rfl, h1, h2, h3, ⟨cs, h4⟩, h5⟩
 ·exact .inl h
 ·have hne : pb ≠ b := by
   rintro rfl
   rcases hb with hb | hb
   ·omega
   ·exact hb _ _ h4
  exact .inr ⟨pb, pc, rfl, h1, h2, h3, ⟨cs, hk.blk hne h4⟩, fun j hj => hk.cell hne (h5 j hj)⟩
/-- The stream as it stands. -/
structure RSt (n tB yB : Nat) (f : Int) (T : List UInt8) (at' : Nat) (W : World) : Prop where
 tab : RTab W tB
 ex : ∃ v, W.heap[yB]? = some (.cells #[.pointer (some ⟨tB, 0, none⟩), .int .i64 f, v, .int .i64 (at' : Nat)] 43 (0, 0)) ∧ TxtAt n W v T
theorem RSt.keep {n b tB yB at' : Nat} {f : Int} {T : List UInt8} {W W' : World} (h : RSt n tB yB f T at' W) (hk : Kept b W W') (hr : NoRune b W) (hb : b < n ∨ ∀ c z, W.heap[b]? ≠ some (.cells c 5 z)) (hy : b ≠ yB) : RSt n tB yB f T at' W' := by
 obtain ⟨v, h1, h2⟩ := h.ex
 exact ⟨h.tab.keep hk hr, v, hk.blk (fun e => hy e.symm) h1, h2.keep hk hb⟩
theorem RSt.more {n tB yB at' : Nat} {f : Int} {T : List UInt8} {W W' : World} (h : RSt n tB yB f T at' W) (hx : Ext W W') : RSt n tB yB f T at' W' := by
 obtain ⟨v, h1, h2⟩ := h.ex
 refine ⟨h.tab.mono hx, v, hx.blk h1, ?_⟩
 rcases h2 with h2 | ⟨pb, pc, rfl, a1, a2, a3, ⟨cs, a4⟩, a5⟩
 ·exact .inl h2
 ·exact .inr ⟨pb, pc, rfl, a1, a2, a3, ⟨cs, hx.blk a4⟩, fun j hj => hx.cell (a5 j hj)⟩
set_option maxRecDepth 100000 in
set_option maxHeartbeats 4000000 in
theorem c_RNew (f : Int) (hf : 0 ≤ f ∧ f ≤ 3) (w : World) :
  Calls Tryz.prog 17 #[.int .i64 f] w fun e w' => ∃ tB yB, e = .returned (.tuple #[.pointer (some ⟨yB, 0, none⟩), .int .i64 0]) ∧ RSt 0 tB yB f [] 0 w' ∧ Ext w w' ∧ w.heap.size ≤ yB := by
 have HC := Lib.hid (show ∀ w, Calls Tryz.prog 29 #[.int .i64 f] w fun e w' => e = .returned (.bool true) ∧ w' = w from fun w => by rw [← decide_eq_true hf]; exact c_rRight f w)
 clear hf
 go_enter Tryz.func17, Tryz.ntmps17
 go_wp2_with fail
 refine (HC.out w).mono ?_
 rintro e w3 ⟨rfl, e3⟩
 obtain rfl := e3.symm
 clear e3
 go_wp2_with fail
 refine (c_rTables w).mono ?_
 rintro e w2 ⟨tB, rfl, ht, hx⟩
 have HT := Lib.hid (And.intro ht hx)
 clear ht hx
 go_wp2_with fail
 exact ret_two rfl rfl rfl rfl ⟨tB, w2.heap.size, rfl, ⟨HT.out.1.mono ((Ext.refl _).alloc _), _, World.alloc_heap_new w2 _, .inl ⟨rfl, rfl⟩⟩, HT.out.2.alloc _, HT.out.2.sz⟩
theorem c_RNew_no (f : Int) (hf : ¬ (0 ≤ f ∧ f ≤ 3)) (w : World) :
  Calls Tryz.prog 17 #[.int .i64 f] w fun e w' => e = .returned (.tuple #[.pointer none, .int .i64 180]) ∧ w' = w := by
 have HC := Lib.hid (show ∀ w, Calls Tryz.prog 29 #[.int .i64 f] w fun e w' => e = .returned (.bool false) ∧ w' = w from fun w => by rw [← decide_eq_false hf]; exact c_rRight f w)
 clear hf
 go_enter Tryz.func17, Tryz.ntmps17
 go_wp2_with fail
 refine (HC.out w).mono ?_
 rintro e w3 ⟨rfl, e3⟩
 obtain rfl := e3.symm
 clear e3
 go_wp2_with fail
 exact ret_two rfl rfl rfl rfl ⟨rfl, rfl⟩
end Go.Proofs.YteokfknkcbmigaaGreatDoor
end

section
namespace Go.Proofs.YteokfknkcbmigaaGreatDoor
open Go.RowKit Go.Rp Go.Shelf Go.Maps Go.Nm

theorem NoRune.stream {W : World} {yB tB : Nat} {f : Int} {v x : Value} (h : W.heap[yB]? = some (.cells #[.pointer (some ⟨tB, 0, none⟩), .int .i64 f, v, x] 43 (0, 0))) : NoRune yB W := by
 refine ⟨fun y e => ?_, fun y e => ?_, fun c z e => ?_⟩
 ·rw [cell_blk h 0] at e; simp at e
 ·rw [cell_blk h 1] at e; simp at e
 ·rw [h] at e; simp at e
theorem RSt.text {n tB yB at' : Nat} {f : Int} {T U : List UInt8} {w w1 : World} {v1 : Value} (h : RSt n tB yB f T at' w) (hx : Ext w w1) (ht : TxtAt w.heap.size w1 v1 U) :
  RSt w.heap.size tB yB f U at' (w1.setCell ⟨yB, 2, none⟩ v1) ∧ Kept yB w (w1.setCell ⟨yB, 2, none⟩ v1) ∧ ∀ W0, Ext W0 w → W0.heap.size ≤ yB → Ext W0 (w1.setCell ⟨yB, 2, none⟩ v1) := by
 obtain ⟨v, h1, h2⟩ := h.ex
 have hb := hx.blk h1
 refine ⟨⟨(h.tab.mono hx).keep (Kept.set yB 2 v1 w1) (NoRune.stream hb), v1, set_blk hb 2 v1, ht.keep (Kept.set yB 2 v1 w1) (.inl (blk_lt h1))⟩, (Kept.of_ext hx).trans (Kept.set yB 2 v1 w1), fun W0 h3 h4 => (h3.trans hx).setCell h4 _⟩
theorem RSt.put {n tB yB at' : Nat} (b : Nat) {f : Int} {T : List UInt8} {w : World} (h : RSt n tB yB f T at' w) (_hn : n ≤ w.heap.size) :
  RSt n tB yB f T b (w.setCell ⟨yB, 3, none⟩ (.int .i64 (b : Nat))) := by
 obtain ⟨v, h1, h2⟩ := h.ex
 refine ⟨h.tab.keep (Kept.set yB 3 _ w) (NoRune.stream h1), v, set_blk h1 3 _, h2.keep (Kept.set yB 3 _ w) (.inr fun c z e => ?_)⟩
 rw [h1] at e
 simp at e
theorem Best.uniq {u : List UInt8} {f : Int} {n a b : Nat} (h : Best u f n a) (k : Best u f n b) : a = b := by
 apply Decidable.byContradiction
 intro hne
 rcases Nat.lt_or_ge a b with hlt | hge
 ·rcases k.1 with k1 | ⟨k1, k2, k3⟩
  ·omega
  ·exact h.2 b hlt k2 k3
 ·rcases h.1 with h1 | ⟨h1, h2, h3⟩
  ·omega
  ·exact k.2 a (by omega) h2 h3
theorem Best.step {u : List UInt8} {f : Int} {n a : Nat} {c : Bool} (h : Best u f n a) (hc : c = true ↔ SafeT u (n : Nat) f) : Best u f (n + 1) (if c = true then n else a) := by
 by_cases hs : c = true
 ·rw [if_pos hs]
  refine ⟨?_, fun j h1 h2 => by omega⟩
  by_cases h0 : n = 0
  ·exact .inl h0
  ·exact .inr ⟨by omega, by omega, hc.1 hs⟩
 ·rw [if_neg hs]
  refine ⟨?_, fun j h1 h2 h3 => ?_⟩
  ·rcases h.1 with h1 | ⟨h1, h2, h3⟩
   ·exact .inl h1
   ·exact .inr ⟨h1, by omega, h3⟩
  ·by_cases hj : j = n
   ·subst hj
    exact hs (hc.2 h3)
   ·exact h.2 j h1 (by omega) h3
theorem txt_of_own {n k : Nat} {W : World} {v : Value} {L : List UInt8} (h : W.ownsRow n 5 1 v k (Lib.byteCells L)) (hk : k = L.length) (hL : L ≠ []) :
  ∃ g cap, v = .slice (some ⟨g, 0, none⟩) L.length cap ∧ L.length ≤ cap ∧ n ≤ g ∧ TxtAt n W v L ∧ ∀ j (h : j < L.length), W.cell? ⟨g, j, none⟩ = some (.int .u8 L[j].toNat) := by
 subst hk
 have hl : 0 < L.length := List.length_pos_iff.2 hL
 obtain ⟨_, h2⟩ := h
 rcases h2 with ⟨_, h0⟩ | ⟨g, cap, cur, rfl, h3, h4, h5, h6, h7, h8⟩
 ·omega
 ·have hc : ∀ j (h : j < L.length), W.cell? ⟨g, j, none⟩ = some (.int .u8 L[j].toNat) := fun j hj => by
   rw [cell_blk h4 j, ← Array.getElem?_toList]
   have e : (cur.toList.take (L.length * 1))[j]? = (Lib.byteCells L)[j]? := by rw [h8]
   rw [List.getElem?_take, if_pos (by omega)] at e
   rw [e]
   simp [Lib.byteCells, hj]
  exact ⟨g, cap, rfl, h5, h3, .inr ⟨g, cap, rfl, h5, h3, hL, ⟨cur, h4⟩, hc⟩, hc⟩
set_option maxRecDepth 100000 in
set_option maxHeartbeats 8000000 in
theorem c_rWrite (n tB yB pb pc at' b : Nat) (f : Int) (_hf : 0 ≤ f ∧ f ≤ 3) (T pl : List UInt8) (w : World) (h : RSt n tB yB f T at' w)
  (hp : ∀ j (h : j < pl.length), w.cell? ⟨pb, j, none⟩ = some (.int .u8 pl[j].toNat)) (hpl : pl ≠ []) (hs : T.length + pl.length ≤ 1000000) (hb : Best ((T ++ pl).take (wholeN (T ++ pl))) f (wholeN (T ++ pl)) b) (hat : at' ≤ wholeN (T ++ pl)) :
  Calls Tryz.prog 22 #[.pointer (some ⟨yB, 0, none⟩), .slice (some ⟨pb, 0, none⟩) pl.length pc] w fun e w' => e = .returned (.string ⟨(if b ≤ at' then [] else formT f (((T ++ pl).take b).drop at')).toArray⟩) ∧ RSt w.heap.size tB yB f (T ++ pl) (if b ≤ at' then at' else b) w' ∧ Kept yB w w' ∧ ∀ W0, Ext W0 w → W0.heap.size ≤ yB → Ext W0 w' := by
 obtain ⟨v, hblk, htx⟩ := h.ex
 obtain ⟨U, hU⟩ : ∃ U, T ++ pl = U := ⟨_, rfl⟩
 rw [hU] at hb hat ⊢
 have hUl : U.length = T.length + pl.length := by rw [← hU, List.length_append]
 have HU := Lib.hid (show U ≠ [] ∧ U.length ≤ 1000000 ∧ U.length = T.length + pl.length ∧ Lib.byteCells U = Lib.byteCells T ++ Lib.byteCells pl from ⟨by
  intro e
  rw [e] at hUl
  exact hpl (List.length_eq_zero_iff.1 (by simp at hUl; omega)), by omega, hUl, by rw [← hU]; simp [Lib.byteCells]⟩)
 have HS := Lib.hid h
 clear hU hUl
 have HB := Lib.hid (And.intro hblk htx)
 have d0 : ∀ w', EOn (fun _ => True) w w' → w'.cell? ⟨yB, 0, none⟩ = some (.pointer (some ⟨tB, 0, none⟩)) := fun w' hx => hx.cell trivial ((cell_blk hblk 0).trans rfl)
 have d1 : ∀ w', EOn (fun _ => True) w w' → w'.cell? ⟨yB, 1, none⟩ = some (.int .i64 f) := fun w' hx => hx.cell trivial ((cell_blk hblk 1).trans rfl)
 have d2 : ∀ w', EOn (fun _ => True) w w' → w'.cell? ⟨yB, 2, none⟩ = some v := fun w' hx => hx.cell trivial ((cell_blk hblk 2).trans rfl)
 have d3 : ∀ w', EOn (fun _ => True) w w' → w'.cell? ⟨yB, 3, none⟩ = some (.int .i64 (at' : Nat)) := fun w' hx => hx.cell trivial ((cell_blk hblk 3).trans rfl)
 have HP := Lib.hid (And.intro hp (And.intro hpl (And.intro hs (And.intro hb hat))))
 clear h hp hpl hs hb hat hblk htx _hf
 obtain ⟨i0, hi0, hz0, hz1, hz3⟩ := info_parts info_u8
 obtain ⟨A, hA⟩ : ∃ A, w.alloc (.cells #[] 5) = A := ⟨_, rfl⟩
 have hxA : Ext w A := by rw [← hA]; exact (Ext.refl w).alloc _
 have e2 := d2 A (EOn.of_ext hxA)
 have hownA : A.ownsRow w.heap.size 5 1 (.slice (some ⟨w.heap.size, 0, none⟩) 0 0) 0 [] := by
  rw [← hA]
  exact ⟨rfl, .inr ⟨_, 0, #[], rfl, Nat.le_refl _, alloc_blk w _, Nat.le_refl _, Nat.zero_le _, rfl, rfl⟩⟩
 have HA := Lib.hid (And.intro hxA hownA)
 clear hxA hownA
 rcases HB.out.2 with ⟨hTn, hv⟩ | ⟨pb2, pc2, hv, hle, hnp, hne, hcs, hcells⟩
 ·subst hTn hv
  go_enter Tryz.func22, Tryz.ntmps22
  go_wp2_with (at_builtin; refine wpList_apps rfl (.tmp 15) (.tmp 16) 38 rfl 5 i0 (.int .u8 0) 1 1 Tryz.underlying38 hi0 hz0 hz1 hz3 rfl (by decide) (W0 := w) rfl HA.out.2 HA.out.1 (Lib.byteCells pl) pb 0 pl.length pc rfl ?hl ?hc ?h1 ?hn (by decide) ?_)
  case hl => simp [Lib.byteCells]
  case hc =>
   intro j hj
   rw [Nat.zero_add]
   have h1 : j < pl.length := by simpa [Lib.byteCells] using hj
   refine (HA.out.1.cell (HP.out.1 j h1)).trans ?_
   simp [Lib.byteCells]
  case h1 =>
   intro u hu
   obtain ⟨x, _, rfl⟩ := List.mem_map.1 hu
   rfl
  case hn => have := HP.out.2.2.1; omega
  intro v1 w1 hown1 hx1 _
  have H1 := Lib.hid (show w1.ownsRow w.heap.size 5 1 v1 U.length (Lib.byteCells U) ∧ Ext w w1 from ⟨by rw [HU.out.2.2.1, HU.out.2.2.2, show ([] : List UInt8).length + pl.length = pl.length from Nat.zero_add _, show Lib.byteCells ([] : List UInt8) ++ Lib.byteCells pl = Lib.byteCells pl from rfl]; exact hown1, hx1⟩)
  clear hown1 hx1
  obtain ⟨g, cap, rfl, hcap, hng, htxt, hcel⟩ := txt_of_own (n := w.heap.size) (k := U.length) (L := U) (H1.out.1) rfl HU.out.1
  have hst := HS.out.text H1.out.2 htxt
  have hb1 := H1.out.2.blk HB.out.1
  have e2' : w1.cell? ⟨yB, 2, none⟩ = some (.slice none 0 0) := (cell_blk hb1 2).trans rfl
  have f2 := frz_blk hb1 2
  have HS1 := Lib.hid hst
  have HB7 := Lib.hid (set_blk hb1 2 (.slice (some ⟨g, 0, none⟩) U.length cap))
  have HC1 := Lib.hid (show ∀ j (h : j < U.length), (w1.setCell ⟨yB, 2, none⟩ (.slice (some ⟨g, 0, none⟩) U.length cap)).cell? ⟨g, j, none⟩ = some (.int .u8 U[j].toNat) from fun j hj => (Kept.set yB 2 _ w1).cell (p := ⟨g, j, none⟩) (by
   have := blk_lt HB.out.1
   show g ≠ yB
   omega) (hcel j hj))
  have HCP := Lib.hid hcap
  clear hst hb1 htxt hcap hcel hng d0 d1 d2 d3
  go_wp2_with fail
  clear e2' f2
  generalize w1.setCell ⟨yB, 2, none⟩ (.slice (some ⟨g, 0, none⟩) U.length cap) = w7 at HS1 HB7 HC1 ⊢
  have d0 : ∀ w', EOn (fun _ => True) w7 w' → w'.cell? ⟨yB, 0, none⟩ = some (.pointer (some ⟨tB, 0, none⟩)) := fun w' hx => hx.cell trivial ((cell_blk HB7.out 0).trans rfl)
  have d1 : ∀ w', EOn (fun _ => True) w7 w' → w'.cell? ⟨yB, 1, none⟩ = some (.int .i64 f) := fun w' hx => hx.cell trivial ((cell_blk HB7.out 1).trans rfl)
  have d2 : ∀ w', EOn (fun _ => True) w7 w' → w'.cell? ⟨yB, 2, none⟩ = some (.slice (some ⟨g, 0, none⟩) U.length cap) := fun w' hx => hx.cell trivial ((cell_blk HB7.out 2).trans rfl)
  have d3 : ∀ w', EOn (fun _ => True) w7 w' → w'.cell? ⟨yB, 3, none⟩ = some (.int .i64 (at' : Nat)) := fun w' hx => hx.cell trivial ((cell_blk HB7.out 3).trans rfl)
  have HH := Lib.hid (fun w' (hx : EOn (fun _ => True) w7 w') => show Calls Tryz.prog 43 #[.slice (some ⟨g, 0, none⟩) U.length cap] w' fun e w'' => e = .returned (.int .i64 (held3 U)) ∧ w'' = w' from c_rHeld g 0 cap U w' HU.out.2.1 HCP.out (fun j hj => by rw [Nat.zero_add]; exact hx.cell trivial (HC1.out j hj)))
  obtain ⟨k, hk⟩ : ∃ k, held3 U = k := ⟨_, rfl⟩
  have hkl : k ≤ U.length := by rw [← hk]; exact (held3_whole U).1
  have HW := Lib.hid (show U.length - k = wholeN U by rw [← hk]; exact (held3_whole U).2)
  rw [hk] at HH
  have hkI : ((k : Nat) : Int) ≤ (U.length : Nat) := by omega
  have hkJ : (0 : Int) ≤ (U.length : Nat) - (k : Nat) := by omega
  have hUI : ((U.length : Nat) : Int) ≤ 1000000 := by have := HU.out.2.1; omega
  have hcI : ((U.length : Nat) : Int) ≤ (cap : Nat) := by have := HCP.out; omega
  have hkC : ((U.length : Nat) : Int) - (k : Nat) ≤ (cap : Nat) := by have := HCP.out; omega
  have hkT : (((U.length : Nat) : Int) - (k : Nat)).toNat = U.length - k := by omega
  have HK := Lib.hid hkl
  have hcv : ∀ w', EOn (fun _ => True) w7 w' → (convert 38 9 (.slice (some ⟨g, 0, none⟩) (U.length - k) cap)).run Tryz.prog w' = .ok (.string ⟨(U.take (U.length - k)).toArray⟩) w' := fun w' hx => by
   have hl : (U.take (U.length - k)).length = U.length - k := by rw [List.length_take]; omega
   have := run_convert_bytes_back (P := Tryz.prog) w' 38 9 5 ⟨g, 0, none⟩ cap (U.take (U.length - k)) Tryz.underlying38 Tryz.underlying5 Tryz.underlying9 (fun j hj => by
    have hadd : (⟨g, 0, none⟩ : Addr).add j = ⟨g, j, none⟩ := by unfold Addr.add; split <;> simp_all
    rw [hadd, List.getElem_take]
    exact hx.cell trivial (HC1.out j (by omega)))
   rw [hl] at this
   exact this
  clear hk hkl
  refine wp_lex (fun _ => True) [true, true, true, true, true, true, true, true, true, true, true, true, true, false, true, true, true, true] (by kernel_rfl) (by kernel_rfl) ?_
  repeat first
   | refine wpG_move' ?_
   | refine wpG_assign' ?_
   | refine wpG_val' ?_
   | refine wpG_no' ?_
  refine wpG_do (by rfl) (fun w8 hx8 K hK => ?_)
  go_wp2_with fail
  refine (HH.out w8 (EOn.of_ext hx8)).mono ?_
  rintro e w9 ⟨rfl, rfl⟩
  refine hK _ _ ⟨EOn.refl _ _, ?_⟩
  clear hK
  replace hcv := fun w' hx => hcv w' (EOn.trans (EOn.of_ext hx8) hx)
  repeat first
   | refine wpG_move' ?_
   | refine wpG_assign' ?_
   | refine wpG_val' ?_
   | refine wpG_no' ?_
  refine wpG_end (fun w10 hx10 => ?_)
  have HX10 := Lib.hid (hx8.trans hx10)
  clear hx8 hx10 d0 d1 d2 d3 HH hcv hkI hkJ hkC hkT
  go_wp2_with fail
  refine gQ_normal ?_
  go_wp2_with fail
  obtain ⟨us, hus⟩ : ∃ us : ByteArray, (⟨(U.take (U.length - k)).toArray⟩ : ByteArray) = us := ⟨_, rfl⟩
  have hud : us.data.toList = U.take (wholeN U) := by rw [← hus, ← HW.out]
  have husz : us.size = wholeN U := by
   have := congrArg List.length hud
   rw [len_eq, List.length_take] at this
   have := (whole_first U).2.1
   omega
  rw [hus]
  have HUS := Lib.hid (And.intro hud husz)
  have hsI : ((us.size : Nat) : Int) ≤ 1000000 := by
   have := (whole_first U).2.1
   have := HU.out.2.1
   omega
  clear hus hud husz
  go_loopw [6, 7] (fun bv iv W => ∃ a j : Nat, iv = .int .i64 (j : Nat) ∧ bv = .int .i64 (a : Nat) ∧ j ≤ us.size ∧ Hid (Best us.data.toList f j a) ∧ Ext w7 W) (fun _ iv _ => us.size + 1 - (intOf iv).toNat)
  case atStart => exact ⟨0, 0, rfl, rfl, by omega, Lib.hid ⟨.inl rfl, fun j a b => by omega⟩, HX10.out⟩
  case round =>
   obtain ⟨a, j, rfl, rfl, hj, HA2, hx⟩ := hrel
   have d0 := hx.cell ((cell_blk HB7.out 0).trans rfl)
   have d1 := hx.cell ((cell_blk HB7.out 1).trans rfl)
   have d3 := hx.cell ((cell_blk HB7.out 3).trans rfl)
   have HXR := Lib.hid hx
   clear hx
   by_cases hlt : j < us.size
   ·have hd : decide (j < us.size) = true := decide_eq_true hlt
    have hI : ((j : Nat) : Int) < (us.size : Nat) := by omega
    obtain ⟨bb, hbb⟩ := safe_bool us.data.toList j f
    have HBB := Lib.hid hbb
    clear hbb
    have HSF := Lib.hid (fun w' (hx : Ext wr w') => c_rSafe tB us j f bb w' (HS1.out.1.tab.mono (HXR.out.trans hx)) (by omega) HBB.out)
    go_wp2_with fail
    have q0 : ∀ w', EOn (fun _ => True) wr w' → w'.cell? ⟨yB, 0, none⟩ = some (.pointer (some ⟨tB, 0, none⟩)) := fun w' hx => hx.cell trivial d0
    have q1 : ∀ w', EOn (fun _ => True) wr w' → w'.cell? ⟨yB, 1, none⟩ = some (.int .i64 f) := fun w' hx => hx.cell trivial d1
    clear d0 d1 d3
    refine wp_lex (fun _ => True) [true, true, true, true, true, true, true, true, true, true, false] (by kernel_rfl) (by kernel_rfl) ?_
    repeat first
     | refine wpG_move' ?_
     | refine wpG_assign' ?_
     | refine wpG_val' ?_
     | refine wpG_no' ?_
    refine wpG_do (by rfl) (fun w8 hx8 K hK => ?_)
    go_wp2_with fail
    refine (HSF.out w8 hx8).mono ?_
    rintro e w9 ⟨rfl, hx9⟩
    refine hK _ _ ⟨EOn.of_ext hx9, ?_⟩
    clear hK
    refine wpG_end (fun w10 hx10 => ?_)
    have HX8 := Lib.hid (HXR.out.trans (hx8.trans (hx9.trans hx10)))
    have HA3 := Lib.hid (HA2.out.step HBB.out)
    clear hx8 hx9 hx10 q0 q1 HSF
    go_wp2_with fail
    refine gQ_normal ?_
    cases bb with
    | true =>
     go_wp2_with fail
     exact ⟨⟨j, j + 1, by simp, rfl, by omega, HA3.out, HX8.out⟩, by simp only [intOf]; omega⟩
    | false =>
     go_wp2_with fail
     exact ⟨⟨a, j + 1, by simp, rfl, by omega, HA3.out, HX8.out⟩, by simp only [intOf]; omega⟩
   ·have hd : decide (j < us.size) = false := decide_eq_false hlt
    have hI : ¬ ((j : Nat) : Int) < (us.size : Nat) := by omega
    obtain rfl : j = us.size := by omega
    obtain rfl : a = b := by
     have h1 := HA2.out
     rw [HUS.out.1, HUS.out.2] at h1
     exact h1.uniq HP.out.2.2.2.1
    clear hlt hj
    by_cases hba : a ≤ at'
    ·have hbi : ((a : Nat) : Int) ≤ (at' : Nat) := by omega
     have hbd : decide (a ≤ at') = true := decide_eq_true hba
     have HBA := Lib.hid hba
     clear hba
     go_wp2_with fail
     go_ret
     exact ⟨rfl, HS1.out.1.more HXR.out, HS1.out.2.1.trans (Kept.of_ext HXR.out), fun W0 h1 h2 => (HS1.out.2.2 W0 h1 h2).trans HXR.out⟩
    have hbi : ¬ ((a : Nat) : Int) ≤ (at' : Nat) := by omega
    have hbd : decide (a ≤ at') = false := decide_eq_false hba
    have HBA := Lib.hid hba
    clear hba
    obtain ⟨sub, hsub⟩ : ∃ sub, us.extract at' a = sub := ⟨_, rfl⟩
    have hal : a ≤ us.size := by
     rcases HA2.out.1 with h1 | ⟨h1, h2, h3⟩
     ·omega
     ·omega
    have HSUB := Lib.hid (show sub.data.toList = (U.take a).drop at' by
     have h1 := HUS.out.2
     rw [← hsub, toList_extract, HUS.out.1, List.drop_take, List.drop_take, List.take_take, Nat.min_eq_left (by omega)])
    have hbJ : ((at' : Nat) : Int) ≤ (a : Nat) := by omega
    have haI : ((a : Nat) : Int) ≤ (us.size : Nat) := by omega
    have HFM := Lib.hid (fun w' (hx : Ext wr w') => c_rForm tB sub f w' (HS1.out.1.tab.mono (HXR.out.trans hx)) (by
     have h1 := congrArg List.length HSUB.out
     rw [len_eq, List.length_drop, List.length_take] at h1
     have := HU.out.2.1
     omega))
    go_wp2_with fail
    have q0 : ∀ w', EOn (fun _ => True) wr w' → w'.cell? ⟨yB, 0, none⟩ = some (.pointer (some ⟨tB, 0, none⟩)) := fun w' hx => hx.cell trivial d0
    have q1 : ∀ w', EOn (fun _ => True) wr w' → w'.cell? ⟨yB, 1, none⟩ = some (.int .i64 f) := fun w' hx => hx.cell trivial d1
    have q3 : ∀ w', EOn (fun _ => True) wr w' → w'.cell? ⟨yB, 3, none⟩ = some (.int .i64 (at' : Nat)) := fun w' hx => hx.cell trivial d3
    clear d0 d1 d3
    refine wp_lex (fun _ => True) [true, true, true, true, true, true, true, true, true, true, true, true, true, true, true, false, true] (by kernel_rfl) (by kernel_rfl) ?_
    repeat first
     | refine wpG_move' ?_
     | refine wpG_assign' ?_
     | refine wpG_val' ?_
     | refine wpG_no' ?_
    refine wpG_do (by rfl) (fun w8 hx8 K hK => ?_)
    go_wp2_with fail
    refine (HFM.out w8 hx8).mono ?_
    rintro e w9 ⟨rfl, hx9⟩
    refine hK _ _ ⟨EOn.of_ext hx9, ?_⟩
    clear hK
    repeat first
     | refine wpG_move' ?_
     | refine wpG_assign' ?_
     | refine wpG_val' ?_
     | refine wpG_no' ?_
    refine wpG_end (fun w10 hx10 => ?_)
    have HX8 := Lib.hid (HXR.out.trans (hx8.trans (hx9.trans hx10)))
    clear hx8 hx9 hx10 q0 q1 q3 HFM hbJ haI
    have hb10 := HX8.out.blk HB7.out
    have e3 : w10.cell? ⟨yB, 3, none⟩ = some (.int .i64 (at' : Nat)) := (cell_blk hb10 3).trans rfl
    have f3 := frz_blk hb10 3
    have HS10 := Lib.hid ((HS1.out.1.more HX8.out).put a (Nat.le_trans HS1.out.2.1.1 HX8.out.sz))
    have HSUBF := Lib.hid (show (⟨(formT f sub.data.toList).toArray⟩ : ByteArray) = ⟨(formT f ((U.take a).drop at')).toArray⟩ by rw [HSUB.out])
    clear hb10
    go_wp2_with fail
    refine gQ_normal ?_
    go_wp2_with fail
    go_ret
    exact ⟨congrArg (fun z => Ending.returned (Value.string z)) HSUBF.out, HS10.out, (HS1.out.2.1.trans (Kept.of_ext HX8.out)).trans (Kept.set yB 3 _ w10), fun W0 h1 h2 => ((HS1.out.2.2 W0 h1 h2).trans HX8.out).setCell h2 _⟩
 ·subst hv
  have HT2 := Lib.hid hcells
  clear hcells hcs hnp hne hle
  go_enter Tryz.func22, Tryz.ntmps22
  go_wp2_with (at_builtin; refine wpList_apps rfl (.tmp 10) (.tmp 14) 38 rfl 5 i0 (.int .u8 0) 1 1 Tryz.underlying38 hi0 hz0 hz1 hz3 rfl (by decide) (W0 := w) rfl HA.out.2 HA.out.1 (Lib.byteCells T) pb2 0 T.length pc2 rfl ?hl ?hc ?h1 ?hn (by decide) ?_)
  case hl => simp [Lib.byteCells]
  case hc =>
   intro j hj
   rw [Nat.zero_add]
   have h1 : j < T.length := by simpa [Lib.byteCells] using hj
   refine (HA.out.1.cell (HT2.out j h1)).trans ?_
   simp [Lib.byteCells]
  case h1 =>
   intro u hu
   obtain ⟨x, _, rfl⟩ := List.mem_map.1 hu
   rfl
  case hn => have := HP.out.2.2.1; omega
  intro v0 w0 hown0 hx0 _
  have H0 := Lib.hid (And.intro hown0 hx0)
  clear hown0 hx0
  go_wp2_with (at_builtin; refine wpList_apps rfl (.tmp 15) (.tmp 16) 38 rfl 5 i0 (.int .u8 0) 1 1 Tryz.underlying38 hi0 hz0 hz1 hz3 rfl (by decide) (W0 := w) rfl H0.out.1 H0.out.2 (Lib.byteCells pl) pb 0 pl.length pc rfl ?hl ?hc ?h1 ?hn (by decide) ?_)
  case hl => simp [Lib.byteCells]
  case hc =>
   intro j hj
   rw [Nat.zero_add]
   have h1 : j < pl.length := by simpa [Lib.byteCells] using hj
   refine (H0.out.2.cell (HP.out.1 j h1)).trans ?_
   simp [Lib.byteCells]
  case h1 =>
   intro u hu
   obtain ⟨x, _, rfl⟩ := List.mem_map.1 hu
   rfl
  case hn => have := HP.out.2.2.1; omega
  intro v1 w1 hown1 hx1 _
  have H1 := Lib.hid (show w1.ownsRow w.heap.size 5 1 v1 U.length (Lib.byteCells U) ∧ Ext w w1 from ⟨by rw [HU.out.2.2.1, HU.out.2.2.2]; exact hown1, hx1⟩)
  clear hown1 hx1
  obtain ⟨g, cap, rfl, hcap, hng, htxt, hcel⟩ := txt_of_own (n := w.heap.size) (k := U.length) (L := U) (H1.out.1) rfl HU.out.1
  have hst := HS.out.text H1.out.2 htxt
  have hb1 := H1.out.2.blk HB.out.1
  have e2' : w1.cell? ⟨yB, 2, none⟩ = some (.slice (some ⟨pb2, 0, none⟩) T.length pc2) := (cell_blk hb1 2).trans rfl
  have f2 := frz_blk hb1 2
  have HS1 := Lib.hid hst
  have HB7 := Lib.hid (set_blk hb1 2 (.slice (some ⟨g, 0, none⟩) U.length cap))
  have HC1 := Lib.hid (show ∀ j (h : j < U.length), (w1.setCell ⟨yB, 2, none⟩ (.slice (some ⟨g, 0, none⟩) U.length cap)).cell? ⟨g, j, none⟩ = some (.int .u8 U[j].toNat) from fun j hj => (Kept.set yB 2 _ w1).cell (p := ⟨g, j, none⟩) (by
   have := blk_lt HB.out.1
   show g ≠ yB
   omega) (hcel j hj))
  have HCP := Lib.hid hcap
  clear hst hb1 htxt hcap hcel hng d0 d1 d2 d3
  go_wp2_with fail
  clear e2' f2
  generalize w1.setCell ⟨yB, 2, none⟩ (.slice (some ⟨g, 0, none⟩) U.length cap) = w7 at HS1 HB7 HC1 ⊢
  have d0 : ∀ w', EOn (fun _ => True) w7 w' → w'.cell? ⟨yB, 0, none⟩ = some (.pointer (some ⟨tB, 0, none⟩)) := fun w' hx => hx.cell trivial ((cell_blk HB7.out 0).trans rfl)
  have d1 : ∀ w', EOn (fun _ => True) w7 w' → w'.cell? ⟨yB, 1, none⟩ = some (.int .i64 f) := fun w' hx => hx.cell trivial ((cell_blk HB7.out 1).trans rfl)
  have d2 : ∀ w', EOn (fun _ => True) w7 w' → w'.cell? ⟨yB, 2, none⟩ = some (.slice (some ⟨g, 0, none⟩) U.length cap) := fun w' hx => hx.cell trivial ((cell_blk HB7.out 2).trans rfl)
  have d3 : ∀ w', EOn (fun _ => True) w7 w' → w'.cell? ⟨yB, 3, none⟩ = some (.int .i64 (at' : Nat)) := fun w' hx => hx.cell trivial ((cell_blk HB7.out 3).trans rfl)
  have HH := Lib.hid (fun w' (hx : EOn (fun _ => True) w7 w') => show Calls Tryz.prog 43 #[.slice (some ⟨g, 0, none⟩) U.length cap] w' fun e w'' => e = .returned (.int .i64 (held3 U)) ∧ w'' = w' from c_rHeld g 0 cap U w' HU.out.2.1 HCP.out (fun j hj => by rw [Nat.zero_add]; exact hx.cell trivial (HC1.out j hj)))
  obtain ⟨k, hk⟩ : ∃ k, held3 U = k := ⟨_, rfl⟩
  have hkl : k ≤ U.length := by rw [← hk]; exact (held3_whole U).1
  have HW := Lib.hid (show U.length - k = wholeN U by rw [← hk]; exact (held3_whole U).2)
  rw [hk] at HH
  have hkI : ((k : Nat) : Int) ≤ (U.length : Nat) := by omega
  have hkJ : (0 : Int) ≤ (U.length : Nat) - (k : Nat) := by omega
  have hUI : ((U.length : Nat) : Int) ≤ 1000000 := by have := HU.out.2.1; omega
  have hcI : ((U.length : Nat) : Int) ≤ (cap : Nat) := by have := HCP.out; omega
  have hkC : ((U.length : Nat) : Int) - (k : Nat) ≤ (cap : Nat) := by have := HCP.out; omega
  have hkT : (((U.length : Nat) : Int) - (k : Nat)).toNat = U.length - k := by omega
  have HK := Lib.hid hkl
  have hcv : ∀ w', EOn (fun _ => True) w7 w' → (convert 38 9 (.slice (some ⟨g, 0, none⟩) (U.length - k) cap)).run Tryz.prog w' = .ok (.string ⟨(U.take (U.length - k)).toArray⟩) w' := fun w' hx => by
   have hl : (U.take (U.length - k)).length = U.length - k := by rw [List.length_take]; omega
   have := run_convert_bytes_back (P := Tryz.prog) w' 38 9 5 ⟨g, 0, none⟩ cap (U.take (U.length - k)) Tryz.underlying38 Tryz.underlying5 Tryz.underlying9 (fun j hj => by
    have hadd : (⟨g, 0, none⟩ : Addr).add j = ⟨g, j, none⟩ := by unfold Addr.add; split <;> simp_all
    rw [hadd, List.getElem_take]
    exact hx.cell trivial (HC1.out j (by omega)))
   rw [hl] at this
   exact this
  clear hk hkl
  refine wp_lex (fun _ => True) [true, true, true, true, true, true, true, true, true, true, true, true, true, false, true, true, true, true] (by kernel_rfl) (by kernel_rfl) ?_
  repeat first
   | refine wpG_move' ?_
   | refine wpG_assign' ?_
   | refine wpG_val' ?_
   | refine wpG_no' ?_
  refine wpG_do (by rfl) (fun w8 hx8 K hK => ?_)
  go_wp2_with fail
  refine (HH.out w8 (EOn.of_ext hx8)).mono ?_
  rintro e w9 ⟨rfl, rfl⟩
  refine hK _ _ ⟨EOn.refl _ _, ?_⟩
  clear hK
  replace hcv := fun w' hx => hcv w' (EOn.trans (EOn.of_ext hx8) hx)
  repeat first
   | refine wpG_move' ?_
   | refine wpG_assign' ?_
   | refine wpG_val' ?_
   | refine wpG_no' ?_
  refine wpG_end (fun w10 hx10 => ?_)
  have HX10 := Lib.hid (hx8.trans hx10)
  clear hx8 hx10 d0 d1 d2 d3 HH hcv hkI hkJ hkC hkT
  go_wp2_with fail
  refine gQ_normal ?_
  go_wp2_with fail
  obtain ⟨us, hus⟩ : ∃ us : ByteArray, (⟨(U.take (U.length - k)).toArray⟩ : ByteArray) = us := ⟨_, rfl⟩
  have hud : us.data.toList = U.take (wholeN U) := by rw [← hus, ← HW.out]
  have husz : us.size = wholeN U := by
   have := congrArg List.length hud
   rw [len_eq, List.length_take] at this
   have := (whole_first U).2.1
   omega
  rw [hus]
  have HUS := Lib.hid (And.intro hud husz)
  have hsI : ((us.size : Nat) : Int) ≤ 1000000 := by
   have := (whole_first U).2.1
   have := HU.out.2.1
   omega
  clear hus hud husz
  go_loopw [6, 7] (fun bv iv W => ∃ a j : Nat, iv = .int .i64 (j : Nat) ∧ bv = .int .i64 (a : Nat) ∧ j ≤ us.size ∧ Hid (Best us.data.toList f j a) ∧ Ext w7 W) (fun _ iv _ => us.size + 1 - (intOf iv).toNat)
  case atStart => exact ⟨0, 0, rfl, rfl, by omega, Lib.hid ⟨.inl rfl, fun j a b => by omega⟩, HX10.out⟩
  case round =>
   obtain ⟨a, j, rfl, rfl, hj, HA2, hx⟩ := hrel
   have d0 := hx.cell ((cell_blk HB7.out 0).trans rfl)
   have d1 := hx.cell ((cell_blk HB7.out 1).trans rfl)
   have d3 := hx.cell ((cell_blk HB7.out 3).trans rfl)
   have HXR := Lib.hid hx
   clear hx
   by_cases hlt : j < us.size
   ·have hd : decide (j < us.size) = true := decide_eq_true hlt
    have hI : ((j : Nat) : Int) < (us.size : Nat) := by omega
    obtain ⟨bb, hbb⟩ := safe_bool us.data.toList j f
    have HBB := Lib.hid hbb
    clear hbb
    have HSF := Lib.hid (fun w' (hx : Ext wr w') => c_rSafe tB us j f bb w' (HS1.out.1.tab.mono (HXR.out.trans hx)) (by omega) HBB.out)
    go_wp2_with fail
    have q0 : ∀ w', EOn (fun _ => True) wr w' → w'.cell? ⟨yB, 0, none⟩ = some (.pointer (some ⟨tB, 0, none⟩)) := fun w' hx => hx.cell trivial d0
    have q1 : ∀ w', EOn (fun _ => True) wr w' → w'.cell? ⟨yB, 1, none⟩ = some (.int .i64 f) := fun w' hx => hx.cell trivial d1
    clear d0 d1 d3
    refine wp_lex (fun _ => True) [true, true, true, true, true, true, true, true, true, true, false] (by kernel_rfl) (by kernel_rfl) ?_
    repeat first
     | refine wpG_move' ?_
     | refine wpG_assign' ?_
     | refine wpG_val' ?_
     | refine wpG_no' ?_
    refine wpG_do (by rfl) (fun w8 hx8 K hK => ?_)
    go_wp2_with fail
    refine (HSF.out w8 hx8).mono ?_
    rintro e w9 ⟨rfl, hx9⟩
    refine hK _ _ ⟨EOn.of_ext hx9, ?_⟩
    clear hK
    refine wpG_end (fun w10 hx10 => ?_)
    have HX8 := Lib.hid (HXR.out.trans (hx8.trans (hx9.trans hx10)))
    have HA3 := Lib.hid (HA2.out.step HBB.out)
    clear hx8 hx9 hx10 q0 q1 HSF
    go_wp2_with fail
    refine gQ_normal ?_
    cases bb with
    | true =>
     go_wp2_with fail
     exact ⟨⟨j, j + 1, by simp, rfl, by omega, HA3.out, HX8.out⟩, by simp only [intOf]; omega⟩
    | false =>
     go_wp2_with fail
     exact ⟨⟨a, j + 1, by simp, rfl, by omega, HA3.out, HX8.out⟩, by simp only [intOf]; omega⟩
   ·have hd : decide (j < us.size) = false := decide_eq_false hlt
    have hI : ¬ ((j : Nat) : Int) < (us.size : Nat) := by omega
    obtain rfl : j = us.size := by omega
    obtain rfl : a = b := by
     have h1 := HA2.out
     rw [HUS.out.1, HUS.out.2] at h1
     exact h1.uniq HP.out.2.2.2.1
    clear hlt hj
    by_cases hba : a ≤ at'
    ·have hbi : ((a : Nat) : Int) ≤ (at' : Nat) := by omega
     have hbd : decide (a ≤ at') = true := decide_eq_true hba
     have HBA := Lib.hid hba
     clear hba
     go_wp2_with fail
     go_ret
     exact ⟨rfl, HS1.out.1.more HXR.out, HS1.out.2.1.trans (Kept.of_ext HXR.out), fun W0 h1 h2 => (HS1.out.2.2 W0 h1 h2).trans HXR.out⟩
    have hbi : ¬ ((a : Nat) : Int) ≤ (at' : Nat) := by omega
    have hbd : decide (a ≤ at') = false := decide_eq_false hba
    have HBA := Lib.hid hba
    clear hba
    obtain ⟨sub, hsub⟩ : ∃ sub, us.extract at' a = sub := ⟨_, rfl⟩
    have hal : a ≤ us.size := by
     rcases HA2.out.1 with h1 | ⟨h1, h2, h3⟩
     ·omega
     ·omega
    have HSUB := Lib.hid (show sub.data.toList = (U.take a).drop at' by
     have h1 := HUS.out.2
     rw [← hsub, toList_extract, HUS.out.1, List.drop_take, List.drop_take, List.take_take, Nat.min_eq_left (by omega)])
    have hbJ : ((at' : Nat) : Int) ≤ (a : Nat) := by omega
    have haI : ((a : Nat) : Int) ≤ (us.size : Nat) := by omega
    have HFM := Lib.hid (fun w' (hx : Ext wr w') => c_rForm tB sub f w' (HS1.out.1.tab.mono (HXR.out.trans hx)) (by
     have h1 := congrArg List.length HSUB.out
     rw [len_eq, List.length_drop, List.length_take] at h1
     have := HU.out.2.1
     omega))
    go_wp2_with fail
    have q0 : ∀ w', EOn (fun _ => True) wr w' → w'.cell? ⟨yB, 0, none⟩ = some (.pointer (some ⟨tB, 0, none⟩)) := fun w' hx => hx.cell trivial d0
    have q1 : ∀ w', EOn (fun _ => True) wr w' → w'.cell? ⟨yB, 1, none⟩ = some (.int .i64 f) := fun w' hx => hx.cell trivial d1
    have q3 : ∀ w', EOn (fun _ => True) wr w' → w'.cell? ⟨yB, 3, none⟩ = some (.int .i64 (at' : Nat)) := fun w' hx => hx.cell trivial d3
    clear d0 d1 d3
    refine wp_lex (fun _ => True) [true, true, true, true, true, true, true, true, true, true, true, true, true, true, true, false, true] (by kernel_rfl) (by kernel_rfl) ?_
    repeat first
     | refine wpG_move' ?_
     | refine wpG_assign' ?_
     | refine wpG_val' ?_
     | refine wpG_no' ?_
    refine wpG_do (by rfl) (fun w8 hx8 K hK => ?_)
    go_wp2_with fail
    refine (HFM.out w8 hx8).mono ?_
    rintro e w9 ⟨rfl, hx9⟩
    refine hK _ _ ⟨EOn.of_ext hx9, ?_⟩
    clear hK
    repeat first
     | refine wpG_move' ?_
     | refine wpG_assign' ?_
     | refine wpG_val' ?_
     | refine wpG_no' ?_
    refine wpG_end (fun w10 hx10 => ?_)
    have HX8 := Lib.hid (HXR.out.trans (hx8.trans (hx9.trans hx10)))
    clear hx8 hx9 hx10 q0 q1 q3 HFM hbJ haI
    have hb10 := HX8.out.blk HB7.out
    have e3 : w10.cell? ⟨yB, 3, none⟩ = some (.int .i64 (at' : Nat)) := (cell_blk hb10 3).trans rfl
    have f3 := frz_blk hb10 3
    have HS10 := Lib.hid ((HS1.out.1.more HX8.out).put a (Nat.le_trans HS1.out.2.1.1 HX8.out.sz))
    have HSUBF := Lib.hid (show (⟨(formT f sub.data.toList).toArray⟩ : ByteArray) = ⟨(formT f ((U.take a).drop at')).toArray⟩ by rw [HSUB.out])
    clear hb10
    go_wp2_with fail
    refine gQ_normal ?_
    go_wp2_with fail
    go_ret
    exact ⟨congrArg (fun z => Ending.returned (Value.string z)) HSUBF.out, HS10.out, (HS1.out.2.1.trans (Kept.of_ext HX8.out)).trans (Kept.set yB 3 _ w10), fun W0 h1 h2 => ((HS1.out.2.2 W0 h1 h2).trans HX8.out).setCell h2 _⟩
end Go.Proofs.YteokfknkcbmigaaGreatDoor
end

section
namespace Go.Proofs.YteokfknkcbmigaaGreatDoor
open Go.RowKit Go.Rp Go.Shelf Go.Maps Go.Nm

theorem RSt.shut {n tB yB at' : Nat} {f : Int} {T : List UInt8} {w : World} (h : RSt n tB yB f T at' w) :
  RSt n tB yB f [] 0 ((w.setCell ⟨yB, 2, none⟩ (.slice none 0 0)).setCell ⟨yB, 3, none⟩ (.int .i64 0)) := by
 obtain ⟨v, h1, h2⟩ := h.ex
 have h3 := set_blk h1 2 (.slice none 0 0)
 exact ⟨(h.tab.keep (Kept.set yB 2 _ w) (NoRune.stream h1)).keep (Kept.set yB 3 _ _) (NoRune.stream h3), .slice none 0 0, set_blk h3 3 _, .inl ⟨rfl, rfl⟩⟩
set_option maxRecDepth 100000 in
set_option maxHeartbeats 8000000 in
theorem c_rClose (n tB yB at' : Nat) (f : Int) (T : List UInt8) (w : World) (h : RSt n tB yB f T at' w) (hs : T.length ≤ 1000000) (hat : (T = [] → at' = 0) ∧ (T ≠ [] → at' < T.length)) :
  Calls Tryz.prog 20 #[.pointer (some ⟨yB, 0, none⟩)] w fun e w' => e = .returned (.string ⟨(formT f (T.drop at')).toArray⟩) ∧ RSt n tB yB f [] 0 w' ∧ Kept yB w w' ∧ ∀ W0, Ext W0 w → W0.heap.size ≤ yB → Ext W0 w' := by
 obtain ⟨v, hblk, htx⟩ := h.ex
 have HB := Lib.hid (And.intro hblk htx)
 have HS := Lib.hid h
 have d0 : ∀ w', EOn (fun _ => True) w w' → w'.cell? ⟨yB, 0, none⟩ = some (.pointer (some ⟨tB, 0, none⟩)) := fun w' hx => hx.cell trivial ((cell_blk hblk 0).trans rfl)
 have d1 : ∀ w', EOn (fun _ => True) w w' → w'.cell? ⟨yB, 1, none⟩ = some (.int .i64 f) := fun w' hx => hx.cell trivial ((cell_blk hblk 1).trans rfl)
 have d2 : ∀ w', EOn (fun _ => True) w w' → w'.cell? ⟨yB, 2, none⟩ = some v := fun w' hx => hx.cell trivial ((cell_blk hblk 2).trans rfl)
 have d3 : ∀ w', EOn (fun _ => True) w w' → w'.cell? ⟨yB, 3, none⟩ = some (.int .i64 (at' : Nat)) := fun w' hx => hx.cell trivial ((cell_blk hblk 3).trans rfl)
 clear h hblk htx
 have HFM := Lib.hid (fun (sub : ByteArray) (hsub : sub.data.toList = T.drop at') w' (hx : Ext w w') => c_rForm tB sub f w' (HS.out.tab.mono hx) (by
  have h1 := congrArg List.length hsub
  rw [len_eq, List.length_drop] at h1
  omega))
 rcases HB.out.2 with ⟨hTn, hv⟩ | ⟨g, cap, hv, hle, hnp, hne, hcs, hcells⟩
 ·obtain rfl : at' = 0 := hat.1 hTn
  subst hTn hv
  have hcv : ∀ w', EOn (fun _ => True) w w' → (convert 38 9 (.slice none 0 0)).run Tryz.prog w' = .ok (.string ⟨#[]⟩) w' := fun w' hx => run_convert_bytes_nil (P := Tryz.prog) w' 38 5 Tryz.underlying38 Tryz.underlying5 _ _ _ Tryz.underlying9
  clear hat hs
  go_enter Tryz.func20, Tryz.ntmps20
  go_wp2_with fail
  refine wp_lex (fun _ => True) [true, true, true, true, true, true, true, true, true, true, true, true, true, true, true, true, true, true, false, true] (by kernel_rfl) (by kernel_rfl) ?_
  repeat first
   | refine wpG_move' ?_
   | refine wpG_assign' ?_
   | refine wpG_val' ?_
   | refine wpG_no' ?_
  refine wpG_do (by rfl) (fun w8 hx8 K hK => ?_)
  go_wp2_with fail
  refine (HFM.out ⟨#[]⟩ rfl w8 hx8).mono ?_
  rintro e w9 ⟨rfl, hx9⟩
  refine hK _ _ ⟨EOn.of_ext hx9, ?_⟩
  clear hK
  repeat first
   | refine wpG_move' ?_
   | refine wpG_assign' ?_
   | refine wpG_val' ?_
   | refine wpG_no' ?_
  refine wpG_end (fun w10 hx10 => ?_)
  have HX8 := Lib.hid (hx8.trans (hx9.trans hx10))
  clear hx8 hx9 hx10 d0 d1 d3 HFM hcv
  go_wp2_with fail
  refine gQ_normal ?_
  have hb10 := HX8.out.blk HB.out.1
  have e2 : w10.cell? ⟨yB, 2, none⟩ = some (.slice none 0 0) := (cell_blk hb10 2).trans rfl
  have e3 : (w10.setCell ⟨yB, 2, none⟩ (.slice none 0 0)).cell? ⟨yB, 3, none⟩ = some (.int .i64 ((0 : Nat) : Int)) := (cell_blk (set_blk hb10 2 _) 3).trans rfl
  have f2 := frz_blk hb10 2
  have f3 := frz_blk (set_blk hb10 2 (.slice none 0 0)) 3
  clear hb10
  go_wp2_with fail
  go_ret
  exact ⟨rfl, (HS.out.more HX8.out).shut, ((Kept.of_ext HX8.out).trans (Kept.set yB 2 _ w10)).trans (Kept.set yB 3 _ _), fun W0 h1 h2 => ((h1.trans HX8.out).setCell h2 _).setCell h2 _⟩
 ·subst hv
  have hlt := hat.2 hne
  have hcI : ((at' : Nat) : Int) ≤ (T.length : Nat) := by omega
  have hcJ : ((T.length : Nat) : Int) ≤ (cap : Nat) := by omega
  have hcK : ¬ (cap - at' = 0) := by omega
  have hcv : ∀ w', EOn (fun _ => True) w w' → (convert 38 9 (.slice (if cap = at' then some ⟨g, 0, none⟩ else some ⟨g, at', none⟩) (T.length - at') (cap - at'))).run Tryz.prog w' = .ok (.string ⟨(T.drop at').toArray⟩) w' := fun w' hx => by
   rw [if_neg (show ¬ cap = at' by omega)]
   have hl : (T.drop at').length = T.length - at' := by rw [List.length_drop]
   have := run_convert_bytes_back (P := Tryz.prog) w' 38 9 5 ⟨g, at', none⟩ (cap - at') (T.drop at') Tryz.underlying38 Tryz.underlying5 Tryz.underlying9 (fun j hj => by
    have hadd : (⟨g, at', none⟩ : Addr).add j = ⟨g, at' + j, none⟩ := by unfold Addr.add; split <;> simp_all
    rw [hadd, List.getElem_drop]
    exact hx.cell trivial (hcells (at' + j) (by omega)))
   rw [hl] at this
   exact this
  clear hat hs hcells hcs hnp hle
  go_enter Tryz.func20, Tryz.ntmps20
  go_wp2_with fail
  refine wp_lex (fun _ => True) [true, true, true, true, true, true, true, true, true, true, true, true, true, true, true, true, true, true, false, true] (by kernel_rfl) (by kernel_rfl) ?_
  repeat first
   | refine wpG_move' ?_
   | refine wpG_assign' ?_
   | refine wpG_val' ?_
   | refine wpG_no' ?_
  refine wpG_do (by rfl) (fun w8 hx8 K hK => ?_)
  go_wp2_with fail
  refine (HFM.out ⟨(T.drop at').toArray⟩ rfl w8 hx8).mono ?_
  rintro e w9 ⟨rfl, hx9⟩
  refine hK _ _ ⟨EOn.of_ext hx9, ?_⟩
  clear hK
  repeat first
   | refine wpG_move' ?_
   | refine wpG_assign' ?_
   | refine wpG_val' ?_
   | refine wpG_no' ?_
  refine wpG_end (fun w10 hx10 => ?_)
  have HX8 := Lib.hid (hx8.trans (hx9.trans hx10))
  clear hx8 hx9 hx10 d0 d1 d3 HFM hcv
  go_wp2_with fail
  refine gQ_normal ?_
  have hb10 := HX8.out.blk HB.out.1
  have e2 : w10.cell? ⟨yB, 2, none⟩ = some (.slice (some ⟨g, 0, none⟩) T.length cap) := (cell_blk hb10 2).trans rfl
  have e3 : (w10.setCell ⟨yB, 2, none⟩ (.slice none 0 0)).cell? ⟨yB, 3, none⟩ = some (.int .i64 ((at' : Nat) : Int)) := (cell_blk (set_blk hb10 2 _) 3).trans rfl
  have f2 := frz_blk hb10 2
  have f3 := frz_blk (set_blk hb10 2 (.slice none 0 0)) 3
  clear hb10
  go_wp2_with fail
  go_ret
  exact ⟨rfl, (HS.out.more HX8.out).shut, ((Kept.of_ext HX8.out).trans (Kept.set yB 2 _ w10)).trans (Kept.set yB 3 _ _), fun W0 h1 h2 => ((h1.trans HX8.out).setCell h2 _).setCell h2 _⟩
end Go.Proofs.YteokfknkcbmigaaGreatDoor
end

section
namespace Go.Proofs.YteokfknkcbmigaaGreatDoor
open Go.RowKit Go.Rp Go.Shelf Go.Maps Go.Nm

/-- A piece's bytes in memory: a block of its own. -/
def U8At (pb m : Nat) (W : World) : Prop := ∃ (cs : Array Value) (n : Nat), W.heap[pb]? = some (.cells cs 5 (n, n + 1)) ∧ m ≤ n ∧ m ≤ cs.size ∧ ∀ (i : Nat) (x : Int), cs[i]? ≠ some (Value.int .i32 x)
theorem U8At.kept {pb m b : Nat} {W W' : World} (h : U8At pb m W) (hk : Kept b W W') (hne : pb ≠ b) : U8At pb m W' := by
 obtain ⟨cs, n, h1, h2⟩ := h
 exact ⟨cs, n, hk.blk hne h1, h2⟩
theorem U8At.more {pb m : Nat} {W W' : World} (h : U8At pb m W) (hx : Ext W W') : U8At pb m W' := by
 obtain ⟨cs, n, h1, h2⟩ := h
 exact ⟨cs, n, hx.blk h1, h2⟩
theorem U8At.norune {pb m : Nat} {W : World} (h : U8At pb m W) : NoRune pb W := by
 obtain ⟨cs, n, h1, h2, h3, h4⟩ := h
 refine ⟨fun y e => ?_, fun y e => ?_, fun c z e => ?_⟩
 ·rw [cell_blk h1 0] at e; exact h4 _ _ e
 ·rw [cell_blk h1 1] at e; exact h4 _ _ e
 ·rw [h1] at e; simp at e
theorem U8At.set {pb m : Nat} {W : World} (h : U8At pb m W) (i : Nat) (z : Int) : U8At pb m (W.setCell ⟨pb, i, none⟩ (.int .u8 z)) := by
 obtain ⟨cs, n, h1, h2, h3, h4⟩ := h
 refine ⟨_, n, set_blk h1 i _, h2, by simpa using h3, fun j x e => ?_⟩
 rw [Array.getElem?_setIfInBounds] at e
 split at e
 ·split at e
  ·simp at e
  ·simp at e
 ·exact h4 _ _ e
theorem U8At.cell {pb m : Nat} {W : World} (h : U8At pb m W) {i : Nat} (hi : i < m) : (∃ v, W.cell? ⟨pb, i, none⟩ = some v) ∧ W.frozen? ⟨pb, i, none⟩ = false := by
 obtain ⟨cs, n, h1, h2, h3, h4⟩ := h
 refine ⟨⟨cs[i]'(by omega), by rw [cell_blk h1 i]; exact Array.getElem?_eq_getElem (by omega)⟩, ?_⟩
 simp [World.frozen?, h1]
 omega
theorem u8_of (w : World) (s : ByteArray) : U8At w.heap.size s.size (Lib.bytesWorld w 5 s) := by
 refine ⟨_, _, Lib.bytesWorld_at_new w _ s, ?_, ?_, fun i x e => ?_⟩
 ·simp [Lib.bytesCells]
 ·simp [Lib.bytesCells]
 ·have := Array.mem_of_getElem? e
  simp [Lib.bytesCells] at this
theorem EOn.of_kept {S : Addr → Prop} {b : Nat} {W W' : World} (h : Kept b W W') (hS : ∀ a, S a → a.block ≠ b) : EOn S W W' :=
 ⟨h.1, fun a ha hb => World.cell?_of_block (h.2 a.block hb (hS a ha)), fun _ _ hm ho _ => h.blk (hS _ hm) ho⟩
/-- Both streams. -/
structure Two (A : World) (nb tB xB tR yB : Nat) (f : Int) (T : List UInt8) (k : Nat) (ws : ByteArray) (n : Nat) (W : World) : Prop where
 x : StrAt (A, W) nb tB xB f ws W
 y : RSt n tR yB f T k W
 le : n ≤ W.heap.size
 ay : A.heap.size ≤ yB
 ne : xB ≠ yB
theorem StrAt.keepY {A Z : World} {nb tB xB yB : Nat} {f : Int} {ws : ByteArray} {W W' : World} (h : StrAt (A, Z) nb tB xB f ws W) (hk : Kept yB W W') (hx : Ext A W') (hne : xB ≠ yB) : StrAt (A, W') nb tB xB f ws W' :=
 ⟨h.tab, h.tabs, hx, h.le, ⟨Nat.le_refl _, fun _ _ _ => rfl⟩, hk.blk hne h.blk⟩
theorem NoRune.str {A Z : World} {nb tB xB : Nat} {f : Int} {ws : ByteArray} {W : World} (h : StrAt (A, Z) nb tB xB f ws W) : NoRune xB W := by
 refine ⟨fun y e => ?_, fun y e => ?_, fun c z e => ?_⟩
 ·rw [cell_blk h.blk 0] at e; simp at e
 ·rw [cell_blk h.blk 1] at e; simp at e
 ·rw [h.blk] at e; simp at e
theorem Two.more {A : World} {nb tB xB tR yB k n : Nat} {f : Int} {T : List UInt8} {ws : ByteArray} {W W' : World} (h : Two A nb tB xB tR yB f T k ws n W) (hx : Ext W W') : Two A nb tB xB tR yB f T k ws n W' :=
 ⟨(h.x.more hx).now, h.y.more hx, Nat.le_trans h.le hx.sz, h.ay, h.ne⟩
theorem Two.turnX {A : World} {nb tB xB tR yB k n : Nat} {f : Int} {T : List UInt8} {ws ws' : ByteArray} {W W' : World} (h : Two A nb tB xB tR yB f T k ws n W) (hs : StrAt (A, W) nb tB xB f ws' W') : Two A nb tB xB tR yB f T k ws' n W' ∧ Kept xB W W' := by
 have hk : Kept xB W W' := ⟨hs.keep.1, fun c h1 h2 => hs.keep.2 c h1 h2⟩
 refine ⟨⟨hs.now, h.y.keep hk (NoRune.str h.x) (.inr fun c z e => ?_) h.ne, Nat.le_trans h.le hk.1, h.ay, h.ne⟩, hk⟩
 rw [h.x.blk] at e
 simp at e
theorem Two.turnY {A : World} {nb tB xB tR yB k k' n n' : Nat} {f : Int} {T T' : List UInt8} {ws : ByteArray} {W W' : World} (h : Two A nb tB xB tR yB f T k ws n W) (hs : RSt n' tR yB f T' k' W') (hn : n' ≤ W'.heap.size) (hk : Kept yB W W') (hx : ∀ W0, Ext W0 W → W0.heap.size ≤ yB → Ext W0 W') : Two A nb tB xB tR yB f T' k' ws n' W' :=
 ⟨h.x.keepY hk (hx A h.x.ext h.ay) h.ne, hs, hn, h.ay, h.ne⟩
theorem Two.setP {A : World} {nb tB xB tR yB k n pb m : Nat} {f : Int} {T : List UInt8} {ws : ByteArray} {W : World} (h : Two A nb tB xB tR yB f T k ws n W) (hp : U8At pb m W) (h1 : pb ≠ xB) (h2 : pb ≠ yB) (h3 : A.heap.size ≤ pb) (h4 : pb < n) (i : Nat) (z : Int) : Two A nb tB xB tR yB f T k ws n (W.setCell ⟨pb, i, none⟩ (.int .u8 z)) := by
 have hk := Kept.set pb i (.int .u8 z) W
 refine ⟨⟨h.x.tab, h.x.tabs, h.x.ext.setCell h3 _, h.x.le, ⟨Nat.le_refl _, fun _ _ _ => rfl⟩, hk.blk (fun e => h1 e.symm) h.x.blk⟩, h.y.keep hk hp.norune (.inl h4) h2, by rw [size_set]; exact h.le, h.ay, h.ne⟩
theorem Two.lx {A : World} {nb tB xB tR yB k n : Nat} {f : Int} {T : List UInt8} {ws : ByteArray} {W : World} (h : Two A nb tB xB tR yB f T k ws n W) : xB < W.heap.size ∧ yB < W.heap.size := by
 obtain ⟨v, h1, _⟩ := h.y.ex
 exact ⟨blk_lt h.x.blk, blk_lt h1⟩
theorem Two.text {A : World} {nb tB xB tR yB k n : Nat} {f : Int} {T : List UInt8} {ws : ByteArray} {W : World} (h : Two A nb tB xB tR yB f T k ws n W) : ∃ p cap, W.cell? ⟨yB, 2, none⟩ = some (.slice p T.length cap) ∧ W.cell? ⟨yB, 3, none⟩ = some (.int .i64 (k : Nat)) := by
 obtain ⟨v, h1, h2⟩ := h.y.ex
 have e3 : W.cell? ⟨yB, 3, none⟩ = some (.int .i64 (k : Nat)) := (cell_blk h1 3).trans rfl
 have e2 : W.cell? ⟨yB, 2, none⟩ = some v := (cell_blk h1 2).trans rfl
 rcases h2 with ⟨rfl, rfl⟩ | ⟨pb, pc, rfl, _⟩
 ·exact ⟨none, 0, e2, e3⟩
 ·exact ⟨_, pc, e2, e3⟩
/-- A piece is written to the package's stream. -/
theorem c_TwoX (A : World) (nb tB xB tR yB k n pb pc c : Nat) (f : Int) (hf : 0 ≤ f ∧ f ≤ 3) (T : List UInt8) (ws vs : ByteArray) (pl : List UInt8) (w : World) (h : Two A nb tB xB tR yB f T k ws n w)
  (hp : ∀ j (h : j < pl.length), w.cell? ⟨pb, j, none⟩ = some (.int .u8 pl[j].toNat)) (hv : vs.data.toList = ws.data.toList ++ pl) (hs : vs.size ≤ 1000000) (h0 : 0 < vs.size) (hc : CutAt (vs.data.toList.take (wholeN vs.data.toList)) f c) :
  Calls Tryz.prog 21 #[.pointer (some ⟨xB, 0, none⟩), .slice (some ⟨pb, 0, none⟩) pl.length pc] w fun e w' => e = .returned (.string ⟨(if c = 0 then [] else formT f (vs.data.toList.take c)).toArray⟩) ∧ Two A nb tB xB tR yB f T k ⟨(vs.data.toList.drop c).toArray⟩ n w' ∧ Kept xB w w' := by
 refine (c_Write (A, w) nb tB xB pb pc f hf ws vs pl c w h.x hp hv hs h0 hc).mono ?_
 rintro e w' ⟨he, hs'⟩
 exact ⟨he, h.turnX hs'⟩
/-- The same piece is written to the reference's stream. -/
theorem c_TwoY (A : World) (nb tB xB tR yB k n pb pc b : Nat) (f : Int) (hf : 0 ≤ f ∧ f ≤ 3) (T : List UInt8) (ws : ByteArray) (pl : List UInt8) (w : World) (h : Two A nb tB xB tR yB f T k ws n w)
  (hp : ∀ j (h : j < pl.length), w.cell? ⟨pb, j, none⟩ = some (.int .u8 pl[j].toNat)) (hpl : pl ≠ []) (hs : T.length + pl.length ≤ 1000000) (hb : Best ((T ++ pl).take (wholeN (T ++ pl))) f (wholeN (T ++ pl)) b) (hat : k ≤ wholeN (T ++ pl)) :
  Calls Tryz.prog 22 #[.pointer (some ⟨yB, 0, none⟩), .slice (some ⟨pb, 0, none⟩) pl.length pc] w fun e w' => e = .returned (.string ⟨(if b ≤ k then [] else formT f (((T ++ pl).take b).drop k)).toArray⟩) ∧ Two A nb tB xB tR yB f (T ++ pl) (if b ≤ k then k else b) ws w.heap.size w' ∧ Kept yB w w' := by
 refine (c_rWrite n tR yB pb pc k b f hf T pl w h.y hp hpl hs hb hat).mono ?_
 rintro e w' ⟨he, hs', hk, hx⟩
 exact ⟨he, h.turnY hs' hk.1 hk hx, hk⟩
theorem c_TwoXC (A : World) (nb tB xB tR yB k n : Nat) (f : Int) (hf : 0 ≤ f ∧ f ≤ 3) (T : List UInt8) (ws : ByteArray) (hs : ws.size ≤ 1000000) (w : World) (h : Two A nb tB xB tR yB f T k ws n w) :
  Calls Tryz.prog 19 #[.pointer (some ⟨xB, 0, none⟩)] w fun e w' => e = .returned (.string ⟨(formT f ws.data.toList).toArray⟩) ∧ Two A nb tB xB tR yB f T k ⟨#[]⟩ n w' ∧ Kept xB w w' := by
 refine (c_Close (A, w) nb tB xB f hf ws hs w h.x).mono ?_
 rintro e w' ⟨he, hs'⟩
 exact ⟨he, h.turnX hs'⟩
theorem c_TwoYC (A : World) (nb tB xB tR yB k n : Nat) (f : Int) (T : List UInt8) (ws : ByteArray) (w : World) (h : Two A nb tB xB tR yB f T k ws n w) (hs : T.length ≤ 1000000) (hat : (T = [] → k = 0) ∧ (T ≠ [] → k < T.length)) :
  Calls Tryz.prog 20 #[.pointer (some ⟨yB, 0, none⟩)] w fun e w' => e = .returned (.string ⟨(formT f (T.drop k)).toArray⟩) ∧ Two A nb tB xB tR yB f [] 0 ws n w' ∧ Kept yB w w' := by
 refine (c_rClose n tR yB k f T w h.y hs hat).mono ?_
 rintro e w' ⟨he, hs', hk, hx⟩
 exact ⟨he, h.turnY hs' (Nat.le_trans h.le hk.1) hk hx, hk⟩
theorem c_TwoH (A : World) (nb tB xB tR yB k n : Nat) (f : Int) (T : List UInt8) (ws : ByteArray) (w : World) (h : Two A nb tB xB tR yB f T k ws n w) :
  Calls Tryz.prog 23 #[.pointer (some ⟨xB, 0, none⟩)] w fun e w' => e = .returned (.int .i64 (ws.size : Nat)) ∧ w' = w :=
 c_Held (A, w) nb tB xB f ws w h.x
/-- What both tell of a piece: the same. -/
theorem both_tell {T : List UInt8} {k : Nat} {ws : ByteArray} {pl : List UInt8} (f : Int) (h : Tie T k ws.data.toList) (hpl : pl ≠ []) :
  ∃ (b c k' : Nat) (vs z : ByteArray), vs.data.toList = ws.data.toList ++ pl ∧ vs.size = ws.size + pl.length ∧ Best ((T ++ pl).take (wholeN (T ++ pl))) f (wholeN (T ++ pl)) b ∧ k ≤ wholeN (T ++ pl) ∧ CutAt (vs.data.toList.take (wholeN vs.data.toList)) f c ∧
   (⟨(if c = 0 then [] else formT f (vs.data.toList.take c)).toArray⟩ : ByteArray) = z ∧ (⟨(if b ≤ k then [] else formT f (((T ++ pl).take b).drop k)).toArray⟩ : ByteArray) = z ∧ (if b ≤ k then k else b) = k' ∧ Tie (T ++ pl) k' ((⟨(vs.data.toList.drop c).toArray⟩ : ByteArray)).data.toList := by
 obtain ⟨b, hb⟩ := best_some ((T ++ pl).take (wholeN (T ++ pl))) f (wholeN (T ++ pl))
 obtain ⟨h1, c, h2, h3, h4⟩ := h.write hpl hb
 obtain ⟨vs, hvs⟩ : ∃ vs : ByteArray, vs.data.toList = ws.data.toList ++ pl := ⟨⟨(ws.data.toList ++ pl).toArray⟩, by simp⟩
 refine ⟨b, c, _, vs, _, hvs, by rw [← len_eq, hvs, List.length_append, len_eq], hb, h1, by rw [hvs]; exact h2, rfl, by rw [hvs, h3], rfl, ?_⟩
 rw [hvs]
 simpa using h4
end Go.Proofs.YteokfknkcbmigaaGreatDoor
end
