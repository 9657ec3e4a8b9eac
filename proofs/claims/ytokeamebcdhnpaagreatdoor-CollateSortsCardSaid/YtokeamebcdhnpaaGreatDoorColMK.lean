/-
 A text's key. How two texts compare.
-/
import Derived.Test.YtokeamebcdhnpaaGreatDoorColCD
import Derived.Test.YtokeamebcdhnpaaGreatDoorWalkTU
import Derived.Maps.AppendAt
import Derived.Lib.BytesEntry
import Derived.Laws.Externs
section
namespace Go.Proofs.YtokeamebcdhnpaaGreatDoor
open Go.RowKit Go.Rp Go.Shelf Go.Maps Go.Cl

theorem w3_zero (l : List El) {x : El} (h : x.1 = 0) : (Cl.w3 (l ++ [x])).flatten = (Cl.w3 l).flatten := by simp [Cl.w3, List.flatMap_append, h]
theorem w3_more (l : List El) {x : El} (h : x.1 ≠ 0) : (Cl.w3 (l ++ [x])).flatten = (Cl.w3 l).flatten ++ [b8 (x.1 / 65536), b8 (x.1 / 256), b8 x.1] := by simp [Cl.w3, List.flatMap_append, h]
theorem wS_zero (l : List El) {x : El} (h : x.2.1 = 0) : (wS (l ++ [x])).flatten = (wS l).flatten := by simp [wS, List.flatMap_append, h]
theorem wS_more (l : List El) {x : El} (h : x.2.1 ≠ 0) : (wS (l ++ [x])).flatten = (wS l).flatten ++ [b8 (x.2.1 / 256), b8 x.2.1] := by simp [wS, List.flatMap_append, h]
theorem wT_zero (g : Bool) (l : List El) {x : El} (h : x.2.2 = 0) : (wT g (l ++ [x])).flatten = (wT g l).flatten := by simp [wT, List.flatMap_append, h]
theorem wT_more (g : Bool) (l : List El) {x : El} (h : x.2.2 ≠ 0) : (wT g (l ++ [x])).flatten = (wT g l).flatten ++ [b8 (thirdN g x.2.2)] := by simp [wT, List.flatMap_append, h]
theorem wF_light (l : List El) {x : El} (h : lightE x = true) : (wF (l ++ [x])).flatten = (wF l).flatten ++ [b8 (x.1 / 256), b8 x.1] := by simp [wF, List.flatMap_append, h]
theorem wF_zero (l : List El) {x : El} (h : lightE x = false) (h2 : x.1 = 0) : (wF (l ++ [x])).flatten = (wF l).flatten := by simp [wF, List.flatMap_append, h, h2]
theorem wF_more (l : List El) {x : El} (h : lightE x = false) (h2 : x.1 ≠ 0) : (wF (l ++ [x])).flatten = (wF l).flatten ++ [255, 255] := by simp [wF, List.flatMap_append, h, h2]
theorem flatC_le (m : Nat) (f : El → List (List UInt8)) (hf : ∀ e, (f e).flatten.length ≤ m) (l : List El) : (l.flatMap f).flatten.length ≤ m * l.length := by
 induction l with
 | nil => simp
 | cons x l ih =>
  rw [List.flatMap_cons, List.flatten_append, List.length_append, List.length_cons]
  have := hf x
  rw [Nat.mul_add, Nat.mul_one]
  omega
theorem w3_le (l : List El) : (Cl.w3 l).flatten.length ≤ 3 * l.length := flatC_le 3 _ (fun e => by split <;> simp) l
theorem wS_le (l : List El) : (wS l).flatten.length ≤ 2 * l.length := flatC_le 2 _ (fun e => by split <;> simp) l
theorem wT_le (g : Bool) (l : List El) : (wT g l).flatten.length ≤ 1 * l.length := flatC_le 1 _ (fun e => by split <;> simp) l
theorem wF_le (l : List El) : (wF l).flatten.length ≤ 2 * l.length := flatC_le 2 _ (fun e => by split <;> (try split) <;> simp) l
theorem heavy_le (s : Bool) (l : List El) : (heavyL s l).length ≤ l.length := by
 have key : ∀ (l : List El) (b : Bool), (heavyGo b l).length ≤ l.length := by
  intro l
  induction l with
  | nil => intro b; exact Nat.le_refl _
  | cons x l ih =>
   intro b
   unfold heavyGo
   have h1 := ih true
   have h2 := ih false
   have h3 := ih b
   split
   ·simp only [List.length_cons]; omega
   ·split
    ·simp only [List.length_cons]; omega
    ·split
     ·simp only [List.length_cons]; omega
     ·simp only [List.length_cons]; omega
 unfold heavyL
 split
 ·exact key l false
 ·exact Nat.le_refl _
theorem bytes_app (a b : List UInt8) : Lib.byteCells (a ++ b) = Lib.byteCells a ++ Lib.byteCells b := by simp [Lib.byteCells]
theorem b8_cell (n : Nat) : Value.int .u8 ((b8 n).toNat : Nat) = .int .u8 ((n : Nat) % 256 : Int) := by
 have h : (b8 n).toNat = n % 256 := by simp [b8]
 rw [h]
 simp
theorem cells3 (n : Nat) : Lib.byteCells [b8 (n / 65536), b8 (n / 256), b8 n] = [.int .u8 (((n : Nat) : Int) / 65536 % 256), .int .u8 (((n : Nat) : Int) / 256 % 256), .int .u8 (((n : Nat) : Int) % 256)] := by
 show [Value.int .u8 ((b8 (n / 65536)).toNat : Nat), Value.int .u8 ((b8 (n / 256)).toNat : Nat), Value.int .u8 ((b8 n).toNat : Nat)] = _
 rw [b8_cell, b8_cell, b8_cell]
 rfl
theorem cells1 (n : Nat) (h : n < 256) : Lib.byteCells [b8 n] = [.int .u8 ((n : Nat) : Int)] := by
 show [Value.int .u8 ((b8 n).toNat : Nat)] = _
 rw [b8_cell]
 congr 2
 omega
theorem cells2 (n : Nat) : Lib.byteCells [b8 (n / 256), b8 n] = [.int .u8 (((n : Nat) : Int) / 256 % 256), .int .u8 (((n : Nat) : Int) % 256)] := by
 show [Value.int .u8 ((b8 (n / 256)).toNat : Nat), Value.int .u8 ((b8 n).toNat : Nat)] = _
 rw [b8_cell, b8_cell]
 rfl
theorem thirdN_lt (g : Bool) (n : Nat) (h : n < 256) : thirdN g n < 256 := by
 unfold thirdN
 split
 ·omega
 ·split
  ·omega
  ·exact h
def Apart (v u : Value) : Prop := ∀ j, v.ownBlock = some j → u.ownBlock ≠ some j
theorem Apart.symm {v u : Value} (h : Apart v u) : Apart u v := fun j h1 h2 => h j h2 h1
/-- A few bytes behind a row of bytes; another row stays. -/
theorem wpList_push {ops : Array Oper} {rest : List Oper} {o : Oper} {a : Act} {Q : Exit → Act → World → Prop} (hgd : o.guard = none) (s x : Operand)
  (ho : o.op = .call { callee := .builtin .append, args := #[s, x], argTypes := #[34, 34] })
  {W0 wr : World} {v u : Value} {n k : Nat} {xs ys : List Value} (hs : a.eval s = v) (hown : wr.ownsRow W0.heap.size 5 1 v n xs) (hu : wr.ownsRow W0.heap.size 5 1 u k ys) (hap : Apart v u) (hx : Ext W0 wr)
  (news : List Value) (m nb : Nat) (hxv : a.eval x = .slice (some ⟨nb, 0, none⟩) m m) (hnb : nb = wr.heap.size) (hl : news.length = m) (h1 : ∀ u ∈ news, u.oneCell' = true) (hn : n + m ≤ 100000000)
  (h : ∀ v' w', w'.ownsRow W0.heap.size 5 1 v' (n + m) (xs ++ news) → w'.ownsRow W0.heap.size 5 1 u k ys → Apart v' u → Ext W0 w' → KeepTy 5 wr w' → wpList Tryz.prog ops Q rest (a.put o.dst v') w') : wpList Tryz.prog ops Q (o :: rest) a (wr.alloc (.cells news.toArray 5)) := by
 subst hnb
 obtain ⟨i0, hi0, hz0, hz1, hz3⟩ := info_parts info_u8C
 have hxa := (Ext.refl wr).alloc (.cells news.toArray 5)
 have hnew := World.alloc_heap_new wr (.cells news.toArray 5)
 have hsz : (wr.alloc (.cells news.toArray 5)).heap.size = wr.heap.size + 1 := World.size_alloc ..
 have hown1 := ownsRow_ext hown hxa
 have hu1 := ownsRow_ext hu hxa
 have hx1 := hx.trans hxa
 have hul := hu.lt
 generalize wr.alloc (.cells news.toArray 5) = wq at *
 refine wpList_append_own_at wq hgd s x 34 ho W0.heap.size 5 i0 (.int .u8 0) 1 1 Tryz.underlying34 hi0 hz0 hz1 hz3 rfl (by decide) v n xs hs hown1 ⟨wr.heap.size, 0, none⟩ m m news hxv (by omega) (fun j z hz => ?_) h1 (by unfold maxLen; omega) (by omega) hx1.sz ?_
 ·have hadd : (⟨wr.heap.size, 0, none⟩ : Addr).add j = ⟨wr.heap.size, j, none⟩ := by unfold Addr.add; split <;> simp_all
  rw [hadd, cell_blk hnew j, List.getElem?_toArray]
  exact hz
 ·intro v' w' g1 g2 _ g4
  have hne : u.ownBlock = none ∨ u.ownBlock ≠ v.ownBlock := by
   rcases hu.2 with ⟨e, _⟩ | ⟨g, cap, cur, e, _⟩
   ·exact .inl (by rw [e]; rfl)
   ·refine .inr fun e2 => ?_
    rw [e] at e2
    have e3 : v.ownBlock = some g := by rw [← e2]; rfl
    exact hap g e3 (by rw [e]; rfl)
  refine h v' w' g1 (hu1.kept g2 hne) (fun j hj hju => ?_) (Below.grown hx1 g2 hx1.sz (fun k e => (hown1.lt k e).1)) ((KeepTy.of_ext hxa).trans (KeepTy.of_grown hown1 g2))
  rcases g4 with g4 | g4
  ·rw [g4] at hj
   exact hap j hj hju
  ·rw [g4] at hj
   obtain rfl := Option.some.inj hj
   have := (hul _ hju).2
   omega
/-- A row of bytes in a block of bytes. -/
def HoldU (W : World) (u : Value) (K : List UInt8) : Prop :=
 ∃ p cap, u = .slice p K.length cap ∧ (p = none → K = []) ∧ ∀ a, p = some a → ∃ g cs fz, a = ⟨g, 0, none⟩ ∧ W.heap[g]? = some (.cells cs 5 fz) ∧ ∀ (i : Nat) x, K[i]? = some x → cs[i]? = some (.int .u8 (x.toNat : Nat))
theorem HoldU.ext {W W' : World} {u : Value} {K : List UInt8} (h : HoldU W u K) (hx : Ext W W') : HoldU W' u K := by
 obtain ⟨p, cap, e, h1, h2⟩ := h
 refine ⟨p, cap, e, h1, fun a ha => ?_⟩
 obtain ⟨g, cs, fz, e2, h3, h4⟩ := h2 a ha
 exact ⟨g, cs, fz, e2, hx.blk h3, h4⟩
theorem HoldU.keep {W W' : World} {u : Value} {K : List UInt8} (h : HoldU W u K) (hk : KeepTy 34 W W') : HoldU W' u K := by
 obtain ⟨p, cap, e, h1, h2⟩ := h
 refine ⟨p, cap, e, h1, fun a ha => ?_⟩
 obtain ⟨g, cs, fz, e2, h3, h4⟩ := h2 a ha
 exact ⟨g, cs, fz, e2, hk g _ h3 (fun c z e => by simp at e), h4⟩
theorem HoldU.bytes {W : World} {u : Value} {K : List UInt8} (h : HoldU W u K) : Lib.HoldsBytes W u K := by
 obtain ⟨p, cap, e, h1, h2⟩ := h
 refine ⟨p, cap, e, h1, fun a ha i x hx => ?_⟩
 obtain ⟨g, cs, fz, rfl, h3, h4⟩ := h2 a ha
 have hadd : (⟨g, 0, none⟩ : Addr).add i = ⟨g, i, none⟩ := by unfold Addr.add; split <;> simp_all
 rw [hadd, cell_blk h3 i]
 exact h4 i x hx
theorem HoldU.of_own {w : World} {B : Nat} {v : Value} {K : List UInt8} (h : w.ownsRow B 5 1 v K.length (Lib.byteCells K)) : HoldU w v K := by
 rcases h.2 with ⟨e, h0⟩ | ⟨g, cap, cur, e, _, hgb, _, _, _, htk⟩
 ·exact ⟨none, 0, by rw [e, h0], fun _ => List.length_eq_zero_iff.1 h0, (fun a ha => by cases ha)⟩
 ·refine ⟨some ⟨g, 0, none⟩, cap, e, (fun e => by cases e), fun a ha => ⟨g, cur, _, (Option.some.inj ha).symm, hgb, fun i x hx => ?_⟩⟩
  have hi := (List.getElem?_eq_some_iff.1 hx).1
  have h1 : (cur.toList.take (K.length * 1))[i]? = (Lib.byteCells K)[i]? := by rw [htk]
  rw [List.getElem?_take, if_pos (by omega)] at h1
  rw [← Array.getElem?_toList, h1]
  simp [Lib.byteCells, hx]
/-- The sections so far: a row of the call's own that holds rows of bytes. -/
structure Secs (W0 W : World) (v : Value) (Ks : List (List UInt8)) : Prop where
 ex : ∃ vs, W.ownsRow W0.heap.size 34 1 v Ks.length vs ∧ vs.length = Ks.length ∧ ∀ (i : Nat) u K, vs[i]? = some u → Ks[i]? = some K → HoldU W u K
 ext : Ext W0 W
theorem Secs.one (w : World) {u : Value} (K : List UInt8) (h : HoldU w u K) : Secs w (w.alloc (.cells #[u] 34)) (.slice (some ⟨w.heap.size, 0, none⟩) 1 1) [K] := by
 refine ⟨⟨[u], ⟨rfl, .inr ⟨w.heap.size, 1, #[u], rfl, Nat.le_refl _, World.alloc_heap_new w _, Nat.le_refl _, by decide, rfl, rfl⟩⟩, rfl, fun i x L h1 h2 => ?_⟩, (Ext.refl _).alloc _⟩
 cases i with
 | zero =>
  obtain rfl := Option.some.inj h1
  obtain rfl := Option.some.inj h2
  exact h.ext ((Ext.refl _).alloc _)
 | succ i => simp at h1
theorem Secs.more {W0 W W' : World} {v : Value} {Ks : List (List UInt8)} (h : Secs W0 W v Ks) (hx : Ext W W') : Secs W0 W' v Ks := by
 obtain ⟨vs, h1, h2, h3⟩ := h.ex
 exact ⟨⟨vs, ownsRow_ext h1 hx, h2, fun i u K a b => (h3 i u K a b).ext hx⟩, h.ext.trans hx⟩
theorem Secs.parts {W0 W : World} {v : Value} {Ks : List (List UInt8)} (h : Secs W0 W v Ks) (hne : Ks ≠ []) : ∃ g cap vs, v = .slice (some ⟨g, 0, none⟩) Ks.length cap ∧ Ks.length ≤ cap ∧ Lib.PartsAt W ⟨g, 0, none⟩ vs Ks := by
 obtain ⟨vs, h1, h2, h3⟩ := h.ex
 rcases h1.2 with ⟨_, h0⟩ | ⟨g, cap, cur, e, _, _, hcap, _⟩
 ·exact absurd (List.length_eq_zero_iff.1 h0) hne
 ·refine ⟨g, cap, vs, e, hcap, h2, fun i u hu => ?_, fun i u K a b => (h3 i u K a b).bytes⟩
  subst e
  have hi := (List.getElem?_eq_some_iff.1 hu).1
  have hadd : (⟨g, 0, none⟩ : Addr).add i = ⟨g, i, none⟩ := by unfold Addr.add; split <;> simp_all
  rw [hadd, h1.cellAt i (by omega)]
  exact hu
theorem Tryz.infoSec : (Tryz.prog.info? 34).map (fun i => (i.zero, i.size, i.bytes)) = some (some (.slice none 0 0), 1, 24) := by kernel_rfl
/-- One section more. -/
theorem wpList_sec {ops : Array Oper} {rest : List Oper} {o : Oper} {a : Act} {Q : Exit → Act → World → Prop} (hgd : o.guard = none) (s x : Operand)
  (ho : o.op = .call { callee := .builtin .append, args := #[s, x], argTypes := #[67, 67] })
  {W0 wr : World} {v u : Value} {Ks : List (List UInt8)} {K : List UInt8} (hs : a.eval s = v) (hS : Secs W0 wr v Ks) (hu : HoldU wr u K) (h1 : u.oneCell' = true)
  (nb : Nat) (hxv : a.eval x = .slice (some ⟨nb, 0, none⟩) 1 1) (hnb : nb = wr.heap.size) (hn : Ks.length ≤ 100)
  (h : ∀ v' w', Secs W0 w' v' (Ks ++ [K]) → Ext W0 w' → wpList Tryz.prog ops Q rest (a.put o.dst v') w') : wpList Tryz.prog ops Q (o :: rest) a (wr.alloc (.cells #[u] 34)) := by
 subst hnb
 obtain ⟨i0, hi0, hz0, hz1, hz3⟩ := info_parts Tryz.infoSec
 obtain ⟨vs, g1, g2, g3⟩ := hS.ex
 refine wpList_app hgd s x 67 ho 34 i0 (.slice none 0 0) 1 24 Tryz.underlying67 hi0 hz0 hz1 hz3 rfl (by decide) hs g1 hS.ext [u] hxv rfl (by intro z hz; simp at hz; subst hz; exact h1) (by omega) (by decide) ?_
 intro v' w' k1 k2 k3
 refine h v' w' ⟨⟨vs ++ [u], by rw [List.length_append]; exact k1, by simp [g2], fun i z L a b => ?_⟩, k2⟩ k2
 by_cases hi : i < vs.length
 ·rw [List.getElem?_append_left hi] at a
  rw [List.getElem?_append_left (by omega)] at b
  exact (g3 i z L a b).keep k3
 ·have hi2 : i = vs.length := by
   have := (List.getElem?_eq_some_iff.1 a).1
   simp at this
   omega
  subst hi2
  rw [List.getElem?_append_right (Nat.le_refl _), Nat.sub_self] at a
  rw [g2, List.getElem?_append_right (Nat.le_refl _), Nat.sub_self] at b
  obtain rfl := Option.some.inj a
  obtain rfl := Option.some.inj b
  exact hu.keep k3
theorem join_inter : ∀ l : List (List UInt8), joinS l = Lib.join l [0, 0]
 | [] => rfl
 | [x] => by rw [Lib.join_one]; rfl
 | x :: y :: l => by
  rw [joinS, join_inter (y :: l)]
  simp [Lib.join, List.intercalate]
theorem key_eq {o : Ord} {A H QL : List El} {t : List UInt8} {K1 K2 K3 K4 : List UInt8} (ho : 1 ≤ o.level ∧ o.level ≤ 4) (hA : elems bookP (mostC bookP) t = A) (hH : heavyL o.shift A = H) (hQ : (if o.back then H.reverse else H) = QL) (h1 : (Cl.w3 H).flatten = K1) (h2 : (wS QL).flatten = K2) (h3 : (wT o.great H).flatten = K3) (h4 : (wF A).flatten = K4) :
  keyL bookP (mostC bookP) o t = joinS ([K1] ++ (if 2 ≤ o.level then [K2] else []) ++ (if 3 ≤ o.level then K3 :: (if o.shift then [K4] else []) else []) ++ (if o.level = 4 then [t] else [])) := by
 subst hA hH hQ h1 h2 h3 h4
 unfold keyL secs
 rw [if_pos ho]
theorem HoldU.conv (w : World) (t : ByteArray) {c : Nat} : HoldU (Lib.bytesWorld w 5 t) (.slice (some ⟨w.heap.size, 0, none⟩) t.size c) t.data.toList := by
 refine ⟨some ⟨w.heap.size, 0, none⟩, c, by rw [len_eqC], (fun e => by cases e), fun a ha => ⟨_, _, _, (Option.some.inj ha).symm, Lib.bytesWorld_at_new w _ t, fun i x hx => ?_⟩⟩
 have hi := (List.getElem?_eq_some_iff.1 hx).1
 have h1 := (bytes_of w 5 t).2 i hi
 rw [cell_blk (Lib.bytesWorld_at_new w _ t) i] at h1
 rw [h1]
 have := (List.getElem?_eq_some_iff.1 hx).2
 rw [this]
theorem sep_holds (w : World) : Lib.HoldsBytes (w.alloc (.cells #[.int .u8 0, .int .u8 0] 5)) (.slice (some ⟨w.heap.size, 0, none⟩) 2 2) [0, 0] := by
 refine HoldU.bytes ⟨some ⟨w.heap.size, 0, none⟩, 2, rfl, (fun e => by cases e), fun a ha => ⟨_, _, _, (Option.some.inj ha).symm, World.alloc_heap_new w _, fun i x hx => ?_⟩⟩
 match i, hx with
 | 0, hx => obtain rfl := Option.some.inj hx; rfl
 | 1, hx => obtain rfl := Option.some.inj hx; rfl
theorem fresh_holds {B : Nat} {w : World} {v : Value} {K : List UInt8} (h : Lib.FreshBytes B w v K) : Lib.HoldsBytes w v K := by
 obtain ⟨g, cap, zs, e, _, hl, _, hz, hr, hb, hc, _⟩ := h
 refine ⟨_, cap, e, (fun e => by cases e), fun a ha i x hx => ?_⟩
 obtain rfl := Option.some.inj ha
 have hi := (List.getElem?_eq_some_iff.1 hx).1
 have hadd : (⟨g, 0, none⟩ : Addr).add i = ⟨g, i, none⟩ := by unfold Addr.add; split <;> simp_all
 rw [hadd, hc i (by omega)]
 rw [← hb] at hx
 unfold Lib.bytesOf at hx
 rw [List.getElem?_map, List.getElem?_take, if_pos hi, List.getElem?_eq_getElem (by omega)] at hx
 have hx2 := Option.some.inj hx
 have hrr := hr zs[i] (List.getElem_mem (by omega))
 rw [List.getD_eq_getElem?_getD, List.getElem?_eq_getElem (by omega), Option.getD_some, ← hx2]
 obtain ⟨z, hz2⟩ : ∃ z, zs[i]'(by omega) = z := ⟨_, rfl⟩
 rw [hz2] at hrr ⊢
 have h9 : (UInt8.ofNat z.toNat).toNat = z.toNat := by simp; omega
 show some (Value.int .u8 z) = some (Value.int .u8 ((UInt8.ofNat z.toNat).toNat : Nat))
 rw [h9]
 congr 2
 omega
/-- Bytes in a block that is no older than B. -/
def HoldsFrom (B : Nat) (w : World) (v : Value) (K : List UInt8) : Prop := Lib.HoldsBytes w v K ∧ ∀ a n c, v = .slice (some a) n c → B ≤ a.block
theorem HoldsFrom.none (B : Nat) (w : World) : HoldsFrom B w (.slice none 0 0) [] := ⟨⟨Option.none, 0, rfl, fun _ => rfl, fun a ha => by cases ha⟩, fun a n c e => by cases e⟩
theorem fresh_from {B B' : Nat} {w : World} {v : Value} {K : List UInt8} (h : Lib.FreshBytes B w v K) (hB : B' ≤ B) : HoldsFrom B' w v K := by
 refine ⟨fresh_holds h, fun a n c e => ?_⟩
 obtain ⟨g, cap, zs, e2, h2, _⟩ := h
 rw [e2] at e
 cases e
 exact Nat.le_trans hB h2
set_option maxRecDepth 100000 in
set_option maxHeartbeats 8000000 in
theorem c_KeyG (s : ByteArray) (o : Ord) (w : World) (hT : TabsC w) (hs : s.size ≤ 16000) (hl : (formT 0 s.data.toList).length ≤ 16000) :
  Calls Tryz.prog 16 #[.string s, ordV o] w fun e w' => ∃ v, e = .returned v ∧ HoldsFrom w.heap.size w' v (keyL bookP (mostC bookP) o (formT 0 s.data.toList)) ∧ Ext w w' := by
 have HLF := Lib.hid hl
 clear hl
 by_cases ho : 1 ≤ o.level ∧ o.level ≤ 4
 ·have HCK := Lib.hid (fun w => c_Check o w)
  rw [if_pos ho] at HCK
  have HF := Lib.hid (fun w hT => c_Form s 0 w hT (by omega))
  go_enter Tryz.func16, Tryz.ntmps16
  go_wp2_with fail
  have hx0 := (Ext.refl w).alloc (.cells #[.int .i64 o.level, .bool o.shift, .bool o.back, .bool o.great] 24)
  have hb0 := World.alloc_heap_new w (.cells #[.int .i64 o.level, .bool o.shift, .bool o.back, .bool o.great] 24)
  generalize w.alloc (.cells #[.int .i64 o.level, .bool o.shift, .bool o.back, .bool o.great] 24) = W0 at hx0 hb0 ⊢
  generalize hob : w.heap.size = ob at hb0 ⊢
  have HB0 := Lib.hid (show ∀ w', Ext W0 w' → w'.cell? ⟨ob, 0, none⟩ = some (.int .i64 o.level) ∧ w'.cell? ⟨ob, 1, none⟩ = some (.bool o.shift) ∧ w'.cell? ⟨ob, 2, none⟩ = some (.bool o.back) ∧ w'.cell? ⟨ob, 3, none⟩ = some (.bool o.great) from fun w' hx => ⟨(cell_blk (hx.blk hb0) 0).trans rfl, (cell_blk (hx.blk hb0) 1).trans rfl, (cell_blk (hx.blk hb0) 2).trans rfl, (cell_blk (hx.blk hb0) 3).trans rfl⟩)
  have HX0 := Lib.hid hx0
  clear hx0 hb0 hob
  refine (HCK.out _).mono ?_
  rintro e w1 ⟨rfl, hx1⟩
  have HX1 := Lib.hid hx1
  clear hx1
  go_wp2_with fail
  refine (HF.out w1 (hT.t.ext (HX0.out.trans HX1.out))).mono ?_
  rintro e w2 ⟨rfl, hx2⟩
  obtain ⟨t, ht⟩ : ∃ t : ByteArray, (⟨(formT 0 s.data.toList).toArray⟩ : ByteArray) = t := ⟨_, rfl⟩
  rw [ht]
  have HX2 := Lib.hid (HX1.out.trans hx2)
  have HTT := Lib.hid ht
  clear hx2 ht
  go_wp2_with fail
  refine (c_els t w2 (hT.ext (HX0.out.trans HX2.out)) (by
   have h1 := HLF.out
   rw [← len_eqC, ← HTT.out]
   show (formT 0 s.data.toList).toArray.toList.length ≤ 50000
   rw [List.toList_toArray]
   omega)).mono ?_
  rintro e w3 ⟨v3, rfl, hr3, hx3⟩
  have HR3 := Lib.hid hr3
  have HX3 := Lib.hid (HX2.out.trans hx3)
  clear hr3 hx3
  obtain ⟨o0, o1, o2, o3⟩ := HB0.out w3 HX3.out
  obtain ⟨A, hA⟩ : ∃ x, elems bookP (mostC bookP) t.data.toList = x := ⟨_, rfl⟩
  rw [hA] at HR3
  have HAE := Lib.hid hA
  clear hA
  have HTLN := Lib.hid (show t.data.toList.length ≤ 16000 by
   have h1 := HLF.out
   rw [← HTT.out]
   show (formT 0 s.data.toList).toArray.toList.length ≤ 16000
   rw [List.toList_toArray]
   omega)
  have HALA := Lib.hid (show A.length ≤ 16000000 by
   have h1 := elems_len (B := bookP) (most := mostC bookP) (fun p hp => by
    obtain ⟨l, hl, rfl⟩ := List.mem_map.1 hp
    have h1 := (linesP_ok.1 l hl).few.2
    show ((Lib.fields (cutC 59 [] l).2).map elOf).length ≤ 1000
    rw [List.length_map]
    exact h1) _ t.data.toList (Nat.le_refl _)
   rw [HAE.out] at h1
   have := HTLN.out
   omega)
  go_wp2_with fail
  refine (c_heavy v3 A o w3 (ElRow.of_own HR3.out) (by have := HALA.out; omega)).mono ?_
  rintro e w4 ⟨v4, rfl, hr4, hx4⟩
  have HR4 := Lib.hid hr4
  have HX4 := Lib.hid (HX3.out.trans hx4)
  have HX34 := Lib.hid hx4
  obtain ⟨p, cap, rfl, hcap, hc⟩ := hr4.opened
  have HC := Lib.hid hc
  obtain ⟨H, hH⟩ : ∃ x, heavyL o.shift A = x := ⟨_, rfl⟩
  rw [hH] at HR4 HC hcap hc ⊢
  have HHE := Lib.hid hH
  clear hH
  clear hr4 hx4 hc o0 o1 o2 o3
  have HAO := Lib.hid (show ∀ e ∈ H, EOk e from fun e he => by
   rw [← HHE.out] at he
   have h1 := heavyL_sub o.shift A e he
   rw [← HAE.out] at h1
   exact elems_ok linesP_ok.2.2.1 _ _ e h1)
  have HAL := Lib.hid (show H.length ≤ 16000000 by
   have h1 := heavy_le o.shift A
   rw [HHE.out] at h1
   have := HALA.out
   omega)
  go_wp2_with fail
  go_loopw [8, 10, 31] (fun fv tv iv W => ∃ i : Nat, iv = .int .i64 (i : Nat) ∧ i ≤ H.length ∧ Hid (W.ownsRow w4.heap.size 5 1 fv (Cl.w3 (H.take i)).flatten.length (Lib.byteCells (Cl.w3 (H.take i)).flatten)) ∧ Hid (W.ownsRow w4.heap.size 5 1 tv (wT o.great (H.take i)).flatten.length (Lib.byteCells (wT o.great (H.take i)).flatten)) ∧ Hid (Apart fv tv) ∧ Hid (Ext w4 W)) (fun _ _ iv _ => H.length + 1 - (intOf iv).toNat)
  case atStart => exact ⟨0, rfl, by omega, Lib.hid (World.ownsRow_nil _ _ _ _), Lib.hid (World.ownsRow_nil _ _ _ _), Lib.hid (fun j h => by cases h), Lib.hid (Ext.refl _)⟩
  case round =>
   obtain ⟨i, rfl, hi, HF1, HT1, HAP, HXR⟩ := hrel
   by_cases hlt : i < H.length
   ·have hI : ((i : Nat) : Int) < (H.length : Nat) := by omega
    have hd : decide (i < H.length) = true := decide_eq_true hlt
    obtain ⟨g, rfl, hcel⟩ := HC.out (by intro e; subst e; simp at hlt)
    obtain ⟨k0, k1, k2⟩ := hcel i hlt
    obtain ⟨x, hx⟩ : ∃ x, H[i] = x := ⟨_, rfl⟩
    have HSP := Lib.hid (show H.take (i + 1) = H.take i ++ [x] by rw [List.take_succ_eq_append_getElem hlt, hx])
    have hIw : wrap64 (((i : Nat) : Int) + 1) = ((i : Nat) : Int) + 1 := by have := HAL.out; unfold wrap64; omega
    have HOK := Lib.hid (HAO.out x (by rw [← hx]; exact List.getElem_mem hlt))
    rw [hx] at k0 k1 k2
    obtain ⟨x1, x2, x3⟩ := x
    clear hcel hx
    by_cases hz1 : x1 = 0
    ·subst hz1
     have HS1 := Lib.hid (show (Cl.w3 (H.take (i + 1))).flatten = (Cl.w3 (H.take i)).flatten by rw [HSP.out, w3_zero _ rfl])
     by_cases hz3 : x3 = 0
     ·subst hz3
      have HS3 := Lib.hid (show (wT o.great (H.take (i + 1))).flatten = (wT o.great (H.take i)).flatten by rw [HSP.out, wT_zero _ _ rfl])
      have e0 : wr.cell? ⟨g, i * 3, none⟩ = some (.int .i64 0) := HXR.out.cell k0
      have e1 : wr.cell? ⟨g, i * 3 + 1, none⟩ = some (.int .i64 (x2 : Nat)) := HXR.out.cell k1
      have e2 : wr.cell? ⟨g, i * 3 + 2, none⟩ = some (.int .i64 0) := HXR.out.cell k2
      have hxe := (Ext.refl wr).alloc (.cells #[.int .i64 0, .int .i64 (x2 : Nat), .int .i64 0] 59)
      have HRO := Lib.hid (And.intro (ownsRow_ext HF1.out hxe) (And.intro (ownsRow_ext HT1.out hxe) (HXR.out.trans hxe)))
      obtain ⟨o0, o1, o2, o3⟩ := HB0.out _ (HX4.out.trans (HXR.out.trans hxe))
      clear hxe HF1 HT1 HXR k0 k1 k2
      clear o0 o1 o2 o3
      go_wp2_with fail
      exact ⟨⟨i + 1, by (try rw [hIw]); simp, by omega, Lib.hid (by rw [HS1.out]; exact HRO.out.1), Lib.hid (by rw [HS3.out]; exact HRO.out.2.1), HAP, Lib.hid HRO.out.2.2⟩, by (try rw [hIw]); simp only [intOf]; omega⟩
     ·have hyI : ¬ ((x3 : Nat) : Int) = 0 := by omega
      have hyq : (((x3 : Nat) : Int) == 0) = false := beq_false_of_ne hyI
      have HS3 := Lib.hid (show (wT o.great (H.take (i + 1))).flatten = (wT o.great (H.take i)).flatten ++ [b8 (thirdN o.great x3)] by rw [HSP.out, wT_more _ _ hz3])
      have HL3 := Lib.hid (show (wT o.great (H.take i)).flatten.length + 1 ≤ 100000000 by
       have h1 := wT_le o.great (H.take i)
       have h2 := HAL.out
       rw [List.length_take] at h1
       omega)
      clear hz3
      have e0 : wr.cell? ⟨g, i * 3, none⟩ = some (.int .i64 0) := HXR.out.cell k0
      have e1 : wr.cell? ⟨g, i * 3 + 1, none⟩ = some (.int .i64 (x2 : Nat)) := HXR.out.cell k1
      have e2 : wr.cell? ⟨g, i * 3 + 2, none⟩ = some (.int .i64 ((x3 : Nat) : Int)) := HXR.out.cell k2
      have hxe := (Ext.refl wr).alloc (.cells #[.int .i64 0, .int .i64 (x2 : Nat), .int .i64 ((x3 : Nat) : Int)] 59)
      have HRO := Lib.hid (And.intro (ownsRow_ext HF1.out hxe) (And.intro (ownsRow_ext HT1.out hxe) (HXR.out.trans hxe)))
      obtain ⟨o0, o1, o2, o3⟩ := HB0.out _ (HX4.out.trans (HXR.out.trans hxe))
      clear hxe HF1 HT1 HXR k0 k1 k2
      go_wp2_with fail
      have HR5 := Lib.hid (And.intro (show (wr.alloc (.cells #[.int .i64 0, .int .i64 (x2 : Nat), .int .i64 (x3 : Nat)] 59)).ownsRow w4.heap.size 5 1 u8 (Cl.w3 (H.take (i + 1))).flatten.length (Lib.byteCells (Cl.w3 (H.take (i + 1))).flatten) by rw [HS1.out]; exact HRO.out.1) (And.intro HRO.out.2.1 (And.intro HAP.out HRO.out.2.2)))
      clear HRO o0 o1 o2 o3
      refine (c_third x3 o HOK.out.2.2 _).mono ?_
      rintro e w6 ⟨rfl, hx6⟩
      have HR6 := Lib.hid (And.intro (ownsRow_ext HR5.out.1 hx6) (And.intro (ownsRow_ext HR5.out.2.1 hx6) (And.intro HR5.out.2.2.1 (HR5.out.2.2.2.trans hx6))))
      have HTL := Lib.hid (thirdN_lt o.great x3 HOK.out.2.2)
      clear hx6 HR5
      go_wp2_with (at_builtin; refine Hid.out ?_)
      refine Lib.hid ?_
      refine wpList_push (v := u10) (u := u8) rfl (.tmp 55) (.tmp 60) rfl rfl HR6.out.2.1 HR6.out.1 HR6.out.2.2.1.symm HR6.out.2.2.2 [.int .u8 (thirdN o.great x3 : Nat)] 1 w6.heap.size rfl rfl rfl (by intro u hu; simp at hu; subst hu; rfl) HL3.out ?_
      intro vt w7 q1 q2 q3 q4 _
      have HR7 := Lib.hid (And.intro q2 (And.intro (show w7.ownsRow w4.heap.size 5 1 vt (wT o.great (H.take (i + 1))).flatten.length (Lib.byteCells (wT o.great (H.take (i + 1))).flatten) by
       rw [HS3.out, bytes_app, List.length_append, cells1 _ HTL.out]
       exact q1) (And.intro q3.symm q4)))
      clear q1 q2 q3 q4 HR6
      go_wp2_with fail
      exact ⟨⟨i + 1, by (try rw [hIw]); simp, by omega, Lib.hid HR7.out.1, Lib.hid HR7.out.2.1, Lib.hid HR7.out.2.2.1, Lib.hid HR7.out.2.2.2⟩, by (try rw [hIw]); simp only [intOf]; omega⟩
    ·have hzI : ¬ ((x1 : Nat) : Int) = 0 := by omega
     have hzq : (((x1 : Nat) : Int) == 0) = false := beq_false_of_ne hzI
     have HS1 := Lib.hid (show (Cl.w3 (H.take (i + 1))).flatten = (Cl.w3 (H.take i)).flatten ++ [b8 (x1 / 65536), b8 (x1 / 256), b8 x1] by rw [HSP.out, w3_more _ hz1])
     have HLN := Lib.hid (show (Cl.w3 (H.take i)).flatten.length + 3 ≤ 100000000 by
      have h1 := w3_le (H.take i)
      have h2 := HAL.out
      rw [List.length_take] at h1
      omega)
     clear hz1
     by_cases hz3 : x3 = 0
     ·subst hz3
      have HS3 := Lib.hid (show (wT o.great (H.take (i + 1))).flatten = (wT o.great (H.take i)).flatten by rw [HSP.out, wT_zero _ _ rfl])
      have e0 : wr.cell? ⟨g, i * 3, none⟩ = some (.int .i64 ((x1 : Nat) : Int)) := HXR.out.cell k0
      have e1 : wr.cell? ⟨g, i * 3 + 1, none⟩ = some (.int .i64 (x2 : Nat)) := HXR.out.cell k1
      have e2 : wr.cell? ⟨g, i * 3 + 2, none⟩ = some (.int .i64 0) := HXR.out.cell k2
      have hxe := (Ext.refl wr).alloc (.cells #[.int .i64 ((x1 : Nat) : Int), .int .i64 (x2 : Nat), .int .i64 0] 59)
      have HRO := Lib.hid (And.intro (ownsRow_ext HF1.out hxe) (And.intro (ownsRow_ext HT1.out hxe) (HXR.out.trans hxe)))
      obtain ⟨o0, o1, o2, o3⟩ := HB0.out _ (HX4.out.trans (HXR.out.trans hxe))
      clear hxe HF1 HT1 HXR k0 k1 k2
      clear o0 o1 o2 o3
      go_wp2_with (at_builtin; refine Hid.out ?_)
      refine Lib.hid ?_
      refine wpList_push (v := u8) (u := u10) rfl (.tmp 38) (.tmp 50) rfl rfl HRO.out.1 HRO.out.2.1 HAP.out HRO.out.2.2 [.int .u8 ((x1 : Nat) / 65536 % 256), .int .u8 ((x1 : Nat) / 256 % 256), .int .u8 ((x1 : Nat) % 256)] 3 (wr.heap.size + 1) rfl (World.size_alloc ..).symm rfl (by intro u hu; simp at hu; rcases hu with rfl | rfl | rfl <;> rfl) HLN.out ?_
      intro v' w5 q1 q2 q3 q4 q5
      have hbe5 := q5 _ _ (World.alloc_heap_new wr (.cells #[.int .i64 ((x1 : Nat) : Int), .int .i64 (x2 : Nat), .int .i64 0] 59)) (fun c z e => by simp at e)
      have HR5 := Lib.hid (And.intro (show w5.ownsRow w4.heap.size 5 1 v' (Cl.w3 (H.take (i + 1))).flatten.length (Lib.byteCells (Cl.w3 (H.take (i + 1))).flatten) by
       rw [HS1.out, bytes_app, List.length_append]
       rw [cells3]
       exact q1) (And.intro q2 (And.intro q3 q4)))
      generalize wr.heap.size = eb at hbe5 ⊢
      clear q1 q2 q3 q4 q5
      clear HRO
      have f2 : w5.cell? ⟨eb, 2, none⟩ = some (.int .i64 0) := (cell_blk hbe5 2).trans rfl
      clear hbe5
      go_wp2_with fail
      exact ⟨⟨i + 1, by (try rw [hIw]); simp, by omega, Lib.hid HR5.out.1, Lib.hid (by rw [HS3.out]; exact HR5.out.2.1), Lib.hid HR5.out.2.2.1, Lib.hid HR5.out.2.2.2⟩, by (try rw [hIw]); simp only [intOf]; omega⟩
     ·have hyI : ¬ ((x3 : Nat) : Int) = 0 := by omega
      have hyq : (((x3 : Nat) : Int) == 0) = false := beq_false_of_ne hyI
      have HS3 := Lib.hid (show (wT o.great (H.take (i + 1))).flatten = (wT o.great (H.take i)).flatten ++ [b8 (thirdN o.great x3)] by rw [HSP.out, wT_more _ _ hz3])
      have HL3 := Lib.hid (show (wT o.great (H.take i)).flatten.length + 1 ≤ 100000000 by
       have h1 := wT_le o.great (H.take i)
       have h2 := HAL.out
       rw [List.length_take] at h1
       omega)
      clear hz3
      have e0 : wr.cell? ⟨g, i * 3, none⟩ = some (.int .i64 ((x1 : Nat) : Int)) := HXR.out.cell k0
      have e1 : wr.cell? ⟨g, i * 3 + 1, none⟩ = some (.int .i64 (x2 : Nat)) := HXR.out.cell k1
      have e2 : wr.cell? ⟨g, i * 3 + 2, none⟩ = some (.int .i64 ((x3 : Nat) : Int)) := HXR.out.cell k2
      have hxe := (Ext.refl wr).alloc (.cells #[.int .i64 ((x1 : Nat) : Int), .int .i64 (x2 : Nat), .int .i64 ((x3 : Nat) : Int)] 59)
      have HRO := Lib.hid (And.intro (ownsRow_ext HF1.out hxe) (And.intro (ownsRow_ext HT1.out hxe) (HXR.out.trans hxe)))
      obtain ⟨o0, o1, o2, o3⟩ := HB0.out _ (HX4.out.trans (HXR.out.trans hxe))
      clear hxe HF1 HT1 HXR k0 k1 k2
      clear o0 o1 o2 o3
      go_wp2_with (at_builtin; refine Hid.out ?_)
      refine Lib.hid ?_
      refine wpList_push (v := u8) (u := u10) rfl (.tmp 38) (.tmp 50) rfl rfl HRO.out.1 HRO.out.2.1 HAP.out HRO.out.2.2 [.int .u8 ((x1 : Nat) / 65536 % 256), .int .u8 ((x1 : Nat) / 256 % 256), .int .u8 ((x1 : Nat) % 256)] 3 (wr.heap.size + 1) rfl (World.size_alloc ..).symm rfl (by intro u hu; simp at hu; rcases hu with rfl | rfl | rfl <;> rfl) HLN.out ?_
      intro v' w5 q1 q2 q3 q4 q5
      have hbe5 := q5 _ _ (World.alloc_heap_new wr (.cells #[.int .i64 ((x1 : Nat) : Int), .int .i64 (x2 : Nat), .int .i64 ((x3 : Nat) : Int)] 59)) (fun c z e => by simp at e)
      have HR5 := Lib.hid (And.intro (show w5.ownsRow w4.heap.size 5 1 v' (Cl.w3 (H.take (i + 1))).flatten.length (Lib.byteCells (Cl.w3 (H.take (i + 1))).flatten) by
       rw [HS1.out, bytes_app, List.length_append]
       rw [cells3]
       exact q1) (And.intro q2 (And.intro q3 q4)))
      generalize wr.heap.size = eb at hbe5 ⊢
      clear q1 q2 q3 q4 q5
      clear HRO
      have f2 : w5.cell? ⟨eb, 2, none⟩ = some (.int .i64 (x3 : Nat)) := (cell_blk hbe5 2).trans rfl
      obtain ⟨o0, o1, o2, o3⟩ := HB0.out w5 (HX4.out.trans HR5.out.2.2.2)
      clear hbe5
      go_wp2_with fail
      clear f2 o0 o1 o2 o3
      refine (c_third x3 o HOK.out.2.2 _).mono ?_
      rintro e w6 ⟨rfl, hx6⟩
      have HR6 := Lib.hid (And.intro (ownsRow_ext HR5.out.1 hx6) (And.intro (ownsRow_ext HR5.out.2.1 hx6) (And.intro HR5.out.2.2.1 (HR5.out.2.2.2.trans hx6))))
      have HTL := Lib.hid (thirdN_lt o.great x3 HOK.out.2.2)
      clear hx6 HR5
      go_wp2_with (at_builtin; refine Hid.out ?_)
      refine Lib.hid ?_
      refine wpList_push (v := u10) (u := v') rfl (.tmp 55) (.tmp 60) rfl rfl HR6.out.2.1 HR6.out.1 HR6.out.2.2.1.symm HR6.out.2.2.2 [.int .u8 (thirdN o.great x3 : Nat)] 1 w6.heap.size rfl rfl rfl (by intro u hu; simp at hu; subst hu; rfl) HL3.out ?_
      intro vt w7 q1 q2 q3 q4 _
      have HR7 := Lib.hid (And.intro q2 (And.intro (show w7.ownsRow w4.heap.size 5 1 vt (wT o.great (H.take (i + 1))).flatten.length (Lib.byteCells (wT o.great (H.take (i + 1))).flatten) by
       rw [HS3.out, bytes_app, List.length_append, cells1 _ HTL.out]
       exact q1) (And.intro q3.symm q4)))
      clear q1 q2 q3 q4 HR6
      go_wp2_with fail
      exact ⟨⟨i + 1, by (try rw [hIw]); simp, by omega, Lib.hid HR7.out.1, Lib.hid HR7.out.2.1, Lib.hid HR7.out.2.2.1, Lib.hid HR7.out.2.2.2⟩, by (try rw [hIw]); simp only [intOf]; omega⟩
   ·have hI : ¬ ((i : Nat) : Int) < (H.length : Nat) := by omega
    have hd : decide (i < H.length) = false := decide_eq_false hlt
    obtain rfl : i = H.length := by omega
    rw [List.take_length] at HF1 HT1
    have HFT := Lib.hid (And.intro HF1.out HT1.out)
    obtain ⟨o0, o1, o2, o3⟩ := HB0.out wr (HX4.out.trans HXR.out)
    clear hlt hi HF1 HT1
    obtain ⟨Wq, rfl⟩ : ∃ x, x = wr := ⟨_, rfl⟩
    cases hbk : o.back
    case' false =>
     rw [hbk] at o2
     have HCQ := Lib.hid (show ElRow Wq (.slice p H.length cap) H from HR4.out.ext HXR.out)
     have HFQ := Lib.hid (And.intro HFT.out HXR.out)
     have HLQ := Lib.hid (show (if o.back then H.reverse else H) = H by rw [hbk]; rfl)
     have HLSZ := HAL
     have hqI : ((H.length : Nat) : Int) ≤ (cap : Nat) := by omega
     go_wp2_with fail
     clear o0 o1 o2 o3
     obtain ⟨HR, hHR⟩ : ∃ x, H = x := ⟨_, rfl⟩
     rw [hHR] at HCQ HLSZ hqI ⊢
     have HLQ := Lib.hid (HLQ.out.trans hHR)
     clear hHR
     obtain ⟨w6, rfl⟩ : ∃ x, x = Wq := ⟨_, rfl⟩
    case' true =>
     rw [hbk] at o2
     go_wp2_with fail
     clear o0 o1 o2 o3
     refine (c_Clone _ H Wq (HR4.out.ext HXR.out) (by have := HAL.out; omega)).mono ?_
     rintro e w5 ⟨vc, rfl, hrc, hxc⟩
     have HCL := Lib.hid (And.intro hrc hxc)
     clear hrc hxc
     go_wp2_with fail
     refine (c_Rev vc H w5 Wq HCL.out.1 HCL.out.2 (by have := HAL.out; omega)).mono ?_
     rintro e w6 ⟨rfl, hrr, hx6⟩
     obtain ⟨p6, cap6, rfl, hcap6, _⟩ := hrr.opened
     have HCQ := Lib.hid hrr
     have HFQ := Lib.hid (And.intro (And.intro (ownsRow_ext HFT.out.1 hx6) (ownsRow_ext HFT.out.2 hx6)) (HXR.out.trans hx6))
     have HLSZ := Lib.hid (show H.reverse.length ≤ 16000000 by rw [List.length_reverse]; exact HAL.out)
     clear hrr hx6 HCL
     obtain ⟨HR, hHR⟩ : ∃ x, H.reverse = x := ⟨_, rfl⟩
     have HLQ := Lib.hid (show (if o.back then H.reverse else H) = HR by rw [hbk]; exact hHR)
     rw [hHR] at HCQ HLSZ hcap6 ⊢
     clear hHR
     have hqI : ((HR.length : Nat) : Int) ≤ (cap6 : Nat) := by omega
     go_wp2_with fail
    iterate 2
     ·have hLw : ((HR.length : Nat) : Int) ≤ 16000000 := by have := HLSZ.out; omega
      go_loopw [9, 71] (fun sv iv W => ∃ i : Nat, iv = .int .i64 (i : Nat) ∧ i ≤ HR.length ∧ Hid (W.ownsRow w6.heap.size 5 1 sv (wS (HR.take i)).flatten.length (Lib.byteCells (wS (HR.take i)).flatten)) ∧ Hid (Ext w6 W)) (fun _ iv _ => HR.length + 1 - (intOf iv).toNat)
      case atStart => exact ⟨0, rfl, by omega, Lib.hid (World.ownsRow_nil _ _ _ _), Lib.hid (Ext.refl _)⟩
      case round =>
       clear hLw
       obtain ⟨i, rfl, hi, HS2, HXS⟩ := hrel
       by_cases hlt : i < HR.length
       ·have hI : ((i : Nat) : Int) < (HR.length : Nat) := by omega
        have hd : decide (i < HR.length) = true := decide_eq_true hlt
        obtain ⟨p2, cap2, hpe, hcap2, hce⟩ := HCQ.out.opened
        obtain ⟨g, hge, hcel⟩ := hce (by intro e; rw [e] at hlt; simp at hlt)
        obtain ⟨rfl, -, rfl⟩ := Value.slice.inj hpe
        obtain rfl := hge
        obtain ⟨k0, k1, k2⟩ := hcel i hlt
        obtain ⟨x, hx⟩ : ∃ x, HR[i] = x := ⟨_, rfl⟩
        have hIw : wrap64 (((i : Nat) : Int) + 1) = ((i : Nat) : Int) + 1 := by have := HLSZ.out; unfold wrap64; omega
        have HSP := Lib.hid (show HR.take (i + 1) = HR.take i ++ [x] by rw [List.take_succ_eq_append_getElem hlt, hx])
        rw [hx] at k0 k1 k2
        obtain ⟨x1, x2, x3⟩ := x
        have e0 : wr.cell? ⟨g, i * 3, none⟩ = some (.int .i64 (x1 : Nat)) := HXS.out.cell k0
        have e2 : wr.cell? ⟨g, i * 3 + 2, none⟩ = some (.int .i64 (x3 : Nat)) := HXS.out.cell k2
        clear hcel hx hpe hce hcap2
        by_cases hz2 : x2 = 0
        ·subst hz2
         have e1 : wr.cell? ⟨g, i * 3 + 1, none⟩ = some (.int .i64 0) := HXS.out.cell k1
         have hxe := (Ext.refl wr).alloc (.cells #[.int .i64 (x1 : Nat), .int .i64 0, .int .i64 (x3 : Nat)] 59)
         have HRO := Lib.hid (And.intro (show (wr.alloc (.cells #[.int .i64 (x1 : Nat), .int .i64 0, .int .i64 (x3 : Nat)] 59)).ownsRow w6.heap.size 5 1 u9 (wS (HR.take (i + 1))).flatten.length (Lib.byteCells (wS (HR.take (i + 1))).flatten) by rw [HSP.out, wS_zero _ rfl]; exact ownsRow_ext HS2.out hxe) (HXS.out.trans hxe))
         clear hxe k0 k1 k2
         go_wp2_with fail
         exact ⟨⟨i + 1, by (try rw [hIw]); simp, by omega, Lib.hid HRO.out.1, Lib.hid HRO.out.2⟩, by (try rw [hIw]); simp only [intOf]; omega⟩
        ·have e1 : wr.cell? ⟨g, i * 3 + 1, none⟩ = some (.int .i64 (x2 : Nat)) := HXS.out.cell k1
         have hzI : ¬ ((x2 : Nat) : Int) = 0 := by omega
         have hzq : (((x2 : Nat) : Int) == 0) = false := beq_false_of_ne hzI
         have hxe := (Ext.refl wr).alloc (.cells #[.int .i64 (x1 : Nat), .int .i64 (x2 : Nat), .int .i64 (x3 : Nat)] 59)
         have HRO := Lib.hid (And.intro (ownsRow_ext HS2.out hxe) (HXS.out.trans hxe))
         have HSE := Lib.hid (show (wS (HR.take (i + 1))).flatten = (wS (HR.take i)).flatten ++ [b8 (x2 / 256), b8 x2] by rw [HSP.out, wS_more _ hz2])
         have HLN := Lib.hid (show (wS (HR.take i)).flatten.length + 2 ≤ 100000000 by
          have h1 := wS_le (HR.take i)
          have h2 := HLSZ.out
          rw [List.length_take] at h1
          omega)
         clear hxe k0 k1 k2 hz2
         go_wp2_with (at_builtin; refine Hid.out ?_)
         refine Lib.hid ?_
         refine wpList_push (v := u9) (u := .slice none 0 0) rfl (.tmp 78) (.tmp 86) rfl rfl HRO.out.1 (World.ownsRow_nil _ _ _ _) (fun j _ h2 => by cases h2) HRO.out.2 [.int .u8 (((x2 : Nat) : Int) / 256 % 256), .int .u8 (((x2 : Nat) : Int) % 256)] 2 (wr.heap.size + 1) rfl (World.size_alloc ..).symm rfl (by intro u hu; simp at hu; rcases hu with rfl | rfl <;> rfl) HLN.out ?_
         intro v' w5 q1 _ _ q4 _
         have HR5 := Lib.hid (And.intro (show w5.ownsRow w6.heap.size 5 1 v' (wS (HR.take (i + 1))).flatten.length (Lib.byteCells (wS (HR.take (i + 1))).flatten) by
          rw [HSE.out, bytes_app, List.length_append, cells2]
          exact q1) q4)
         clear q1 q4 HRO
         go_wp2_with fail
         exact ⟨⟨i + 1, by (try rw [hIw]); simp, by omega, Lib.hid HR5.out.1, Lib.hid HR5.out.2⟩, by (try rw [hIw]); simp only [intOf]; omega⟩
       ·have hI : ¬ ((i : Nat) : Int) < (HR.length : Nat) := by omega
        have hd : decide (i < HR.length) = false := decide_eq_false hlt
        obtain rfl : i = HR.length := by omega
        rw [List.take_length] at HS2
        clear hlt hi
        obtain ⟨p3, cap3, rfl, hcap3, hc3⟩ := (ElRow.of_own HR3.out).opened
        have HC3 := Lib.hid hc3
        clear hc3
        obtain ⟨W3, rfl⟩ : ∃ x, x = wr := ⟨_, rfl⟩
        have hAw : ((A.length : Nat) : Int) ≤ 16000000 := by have := HALA.out; omega
        go_wp2_with fail
        go_loopw [11, 91] (fun sv iv W => ∃ i : Nat, iv = .int .i64 (i : Nat) ∧ i ≤ A.length ∧ Hid (W.ownsRow W3.heap.size 5 1 sv (wF (A.take i)).flatten.length (Lib.byteCells (wF (A.take i)).flatten)) ∧ Hid (Ext W3 W)) (fun _ iv _ => A.length + 1 - (intOf iv).toNat)
        case atStart => exact ⟨0, rfl, by omega, Lib.hid (World.ownsRow_nil _ _ _ _), Lib.hid (Ext.refl _)⟩
        case round =>
         clear hAw
         obtain ⟨i, rfl, hi, HS4, HXF⟩ := hrel
         by_cases hlt : i < A.length
         ·have hI : ((i : Nat) : Int) < (A.length : Nat) := by omega
          have hd : decide (i < A.length) = true := decide_eq_true hlt
          obtain ⟨g, rfl, hcel⟩ := HC3.out (by intro e; rw [e] at hlt; simp at hlt)
          obtain ⟨k0, k1, k2⟩ := hcel i hlt
          obtain ⟨x, hx⟩ : ∃ x, A[i] = x := ⟨_, rfl⟩
          have hIw : wrap64 (((i : Nat) : Int) + 1) = ((i : Nat) : Int) + 1 := by have := HALA.out; unfold wrap64; omega
          have HSP := Lib.hid (show A.take (i + 1) = A.take i ++ [x] by rw [List.take_succ_eq_append_getElem hlt, hx])
          have HLN := Lib.hid (show (wF (A.take i)).flatten.length + 2 ≤ 100000000 by
           have h1 := wF_le (A.take i)
           have h2 := HALA.out
           rw [List.length_take] at h1
           omega)
          rw [hx] at k0 k1 k2
          have hxw := HX34.out.trans (HFQ.out.2.trans (HXS.out.trans HXF.out))
          have e0 := hxw.cell k0
          have e1 := hxw.cell k1
          have e2 := hxw.cell k2
          clear hcel hx k0 k1 k2 hxw
          go_wp2_with fail
          have hxa := (Ext.refl wr).alloc (.cells #[.int .i64 (x.1 : Nat), .int .i64 (x.2.1 : Nat), .int .i64 (x.2.2 : Nat)] 59)
          have hba := World.alloc_heap_new wr (.cells #[.int .i64 (x.1 : Nat), .int .i64 (x.2.1 : Nat), .int .i64 (x.2.2 : Nat)] 59)
          generalize wr.alloc (.cells #[.int .i64 (x.1 : Nat), .int .i64 (x.2.1 : Nat), .int .i64 (x.2.2 : Nat)] 59) = w4' at hxa hba ⊢
          generalize wr.heap.size = eb at hba ⊢
          refine (c_light x w4').mono ?_
          rintro e w5 ⟨rfl, hx5⟩
          have f0 : w5.cell? ⟨eb, 0, none⟩ = some (.int .i64 (x.1 : Nat)) := (cell_blk (hx5.blk hba) 0).trans rfl
          have HR5 := Lib.hid (And.intro (ownsRow_ext HS4.out (hxa.trans hx5)) (HXF.out.trans (hxa.trans hx5)))
          clear hxa hba hx5 e0 e1 e2 HS4 HXF
          obtain ⟨x1, x2, x3⟩ := x
          by_cases hl1 : lightE (x1, x2, x3) = true
          ·have HSE := Lib.hid (show (wF (A.take (i + 1))).flatten = (wF (A.take i)).flatten ++ [b8 (x1 / 256), b8 x1] by rw [HSP.out, wF_light _ hl1])
           rw [hl1]
           clear hl1
           go_wp2_with (at_builtin; refine Hid.out ?_)
           refine Lib.hid ?_
           refine wpList_push (v := u11) (u := .slice none 0 0) rfl (.tmp 97) (.tmp 105) rfl rfl HR5.out.1 (World.ownsRow_nil _ _ _ _) (fun j _ h2 => by cases h2) HR5.out.2 [.int .u8 (((x1 : Nat) : Int) / 256 % 256), .int .u8 (((x1 : Nat) : Int) % 256)] 2 w5.heap.size rfl rfl rfl (by intro u hu; simp at hu; rcases hu with rfl | rfl <;> rfl) HLN.out ?_
           intro v' w6 q1 _ _ q4 _
           have HR6 := Lib.hid (And.intro (show w6.ownsRow W3.heap.size 5 1 v' (wF (A.take (i + 1))).flatten.length (Lib.byteCells (wF (A.take (i + 1))).flatten) by
            rw [HSE.out, bytes_app, List.length_append, cells2]
            exact q1) q4)
           clear q1 q4 HR5 f0
           go_wp2_with fail
           exact ⟨⟨i + 1, by (try rw [hIw]); simp, by omega, Lib.hid HR6.out.1, Lib.hid HR6.out.2⟩, by (try rw [hIw]); simp only [intOf]; omega⟩
          ·have hl2 : lightE (x1, x2, x3) = false := by simpa using hl1
           rw [hl2]
           clear hl1
           by_cases hz1 : x1 = 0
           ·subst hz1
            have HSE := Lib.hid (show (wF (A.take (i + 1))).flatten = (wF (A.take i)).flatten by rw [HSP.out, wF_zero _ hl2 rfl])
            have f0' : w5.cell? ⟨eb, 0, none⟩ = some (.int .i64 0) := f0
            clear hl2 f0
            go_wp2_with fail
            exact ⟨⟨i + 1, by (try rw [hIw]); simp, by omega, Lib.hid (by rw [HSE.out]; exact HR5.out.1), Lib.hid HR5.out.2⟩, by (try rw [hIw]); simp only [intOf]; omega⟩
           ·have hzI : ¬ ((x1 : Nat) : Int) = 0 := by omega
            have hzq : (((x1 : Nat) : Int) == 0) = false := beq_false_of_ne hzI
            have HSE := Lib.hid (show (wF (A.take (i + 1))).flatten = (wF (A.take i)).flatten ++ [255, 255] by rw [HSP.out, wF_more _ hl2 hz1])
            clear hl2 hz1
            go_wp2_with (at_builtin; refine Hid.out ?_)
            refine Lib.hid ?_
            refine wpList_push (v := u11) (u := .slice none 0 0) rfl (.tmp 110) (.tmp 111) rfl rfl HR5.out.1 (World.ownsRow_nil _ _ _ _) (fun j _ h2 => by cases h2) HR5.out.2 [.int .u8 255, .int .u8 255] 2 w5.heap.size rfl rfl rfl (by intro u hu; simp at hu; subst hu; rfl) HLN.out ?_
            intro v' w6 q1 _ _ q4 _
            have HR6 := Lib.hid (And.intro (show w6.ownsRow W3.heap.size 5 1 v' (wF (A.take (i + 1))).flatten.length (Lib.byteCells (wF (A.take (i + 1))).flatten) by
             rw [HSE.out, bytes_app, List.length_append]
             exact q1) q4)
            clear q1 q4 HR5 f0
            go_wp2_with fail
            exact ⟨⟨i + 1, by (try rw [hIw]); simp, by omega, Lib.hid HR6.out.1, Lib.hid HR6.out.2⟩, by (try rw [hIw]); simp only [intOf]; omega⟩
         ·have hI : ¬ ((i : Nat) : Int) < (A.length : Nat) := by omega
          have hd : decide (i < A.length) = false := decide_eq_false hlt
          obtain rfl : i = A.length := by omega
          rw [List.take_length] at HS4
          clear hlt hi
          obtain ⟨K1, hK1⟩ : ∃ x, (Cl.w3 H).flatten = x := ⟨_, rfl⟩
          obtain ⟨K2, hK2⟩ : ∃ x, (wS HR).flatten = x := ⟨_, rfl⟩
          obtain ⟨K3, hK3⟩ : ∃ x, (wT o.great H).flatten = x := ⟨_, rfl⟩
          obtain ⟨K4, hK4⟩ : ∃ x, (wF A).flatten = x := ⟨_, rfl⟩
          have HRR := Lib.hid (And.intro (ownsRow_ext HFQ.out.1.1 (HXS.out.trans HXF.out)) (And.intro (ownsRow_ext HS2.out HXF.out) (And.intro (ownsRow_ext HFQ.out.1.2 (HXS.out.trans HXF.out)) HS4.out)))
          have HKL := Lib.hid (show (Cl.w3 H).flatten.length ≤ 48000000 ∧ (wS HR).flatten.length ≤ 48000000 ∧ (wT o.great H).flatten.length ≤ 48000000 ∧ (wF A).flatten.length ≤ 48000000 from by
           have h1 := w3_le H
           have h2 := wS_le HR
           have h3 := wT_le o.great H
           have h4 := wF_le A
           have h5 := HAL.out
           have h6 := HALA.out
           have h7 : HR.length ≤ 16000000 := HLSZ.out
           omega)
          rw [hK1, hK2, hK3, hK4] at HRR HKL
          have HXW := Lib.hid (HX4.out.trans (HFQ.out.2.trans (HXS.out.trans HXF.out)))
          have HKK := Lib.hid (And.intro hK1 (And.intro hK2 (And.intro hK3 hK4)))
          clear hK1 hK2 hK3 hK4 HS2 HS4 HXS HXF HFQ
          obtain ⟨p8, c8, rfl⟩ := own_slice HRR.out.1
          obtain ⟨p9, c9, rfl⟩ := own_slice HRR.out.2.1
          obtain ⟨p10, c10, rfl⟩ := own_slice HRR.out.2.2.1
          obtain ⟨p11, c11, rfl⟩ := own_slice HRR.out.2.2.2
          have hxs := (Ext.refl wr).alloc (.cells #[.slice p8 K1.length c8] 34)
          have HP1 := Lib.hid (Secs.one wr K1 (HoldU.of_own HRR.out.1))
          obtain ⟨o0, o1, o2, o3⟩ := HB0.out _ (HXW.out.trans hxs)
          by_cases hv2 : 2 ≤ o.level
          ·have hv2d : decide (2 ≤ o.level) = true := decide_eq_true hv2
           go_wp2_with (at_builtin; refine Hid.out ?_)
           refine Lib.hid ?_
           refine wpList_sec rfl (.tmp 119) (.tmp 121) rfl rfl HP1.out ((HoldU.of_own HRR.out.2.1).ext HP1.out.ext) rfl (wr.heap.size + 1) rfl (World.size_alloc ..).symm (by simp) ?_
           intro s2 w22 hS2 hx2
           have HP2 := Lib.hid (And.intro hS2 hx2)
           clear hS2 hx2 o0 o1 o2 o3
           obtain ⟨o0, o1, o2, o3⟩ := HB0.out w22 (HXW.out.trans HP2.out.2)
           by_cases hv3 : 3 ≤ o.level
           ·have hv3d : decide (3 ≤ o.level) = true := decide_eq_true hv3
            go_wp2_with (at_builtin; refine Hid.out ?_)
            refine Lib.hid ?_
            refine wpList_sec rfl (.tmp 126) (.tmp 128) rfl rfl HP2.out.1 ((HoldU.of_own HRR.out.2.2.1).ext HP2.out.2) rfl w22.heap.size rfl rfl (by simp) ?_
            intro s3 w33 hS3 hx3
            have HP3 := Lib.hid (And.intro hS3 hx3)
            clear hS3 hx3 o0 o1 o2 o3 HP2 hv2d
            obtain ⟨o0, o1, o2, o3⟩ := HB0.out w33 (HXW.out.trans HP3.out.2)
            cases hsh : o.shift with
            | false =>
             rw [hsh] at o1
             by_cases hv4 : o.level = 4
             ·have hvq := hv4
              rw [hvq] at o0
              clear hv3d
              have hcv := fun w => Lib.run_convert_string_bytes (P := Tryz.prog) w 9 34 5 t Tryz.underlying9 Tryz.underlying34 Tryz.underlying5
              go_wp2_with (at_builtin; refine Hid.out ?_)
              refine Lib.hid ?_
              refine wpList_sec rfl (.tmp 139) (.tmp 142) rfl rfl (HP3.out.1.more (bytes_of w33 5 t).1) (HoldU.conv w33 t) rfl (Lib.bytesWorld w33 5 t).heap.size rfl rfl (by simp) ?_
              intro s5 w55 hS5 hx5
              have HP5 := Lib.hid (And.intro hS5 hx5)
              clear hS5 hx5 o0 o1 o2 o3
              have HKE := Lib.hid (show joinS (([K1] ++ [K2] ++ [K3]) ++ [t.data.toList]) = keyL bookP (mostC bookP) o t.data.toList by
               have h := key_eq ho HAE.out HHE.out HLQ.out HKK.out.1 HKK.out.2.1 HKK.out.2.2.1 HKK.out.2.2.2
               rw [h, hvq, hsh]
               rfl)
              go_wp2_with fail
              have HSJ := Lib.hid (HP5.out.1.more ((Ext.refl w55).alloc (.cells #[.int .u8 0, .int .u8 0] 5)))
              obtain ⟨gJ, cJ, vsJ, rfl, hcJ, hPJ⟩ := HSJ.out.parts (by simp)
              refine (Tryz.bytes_Join_many gJ 0 ((([K1] ++ [K2] ++ [K3]) ++ [t.data.toList])).length cJ vsJ ((([K1] ++ [K2] ++ [K3]) ++ [t.data.toList])) (.slice (some ⟨w55.heap.size, 0, none⟩) 2 2) [0, 0] _ rfl (by simp) hPJ hcJ (sep_holds w55) (by simp) (by
               have h1 := HKL.out
               have h2 := HTLN.out
               simp only [Lib.lens, List.map_cons, List.map_nil, List.sum_cons, List.sum_nil, List.cons_append, List.nil_append, List.length_cons, List.length_nil]
               omega)).mono ?_
              rintro e wz ⟨vj, rfl, hfr, hbl⟩
              have HJ := Lib.hid (And.intro (fresh_from hfr (HX0.out.trans (HXW.out.trans HSJ.out.ext)).sz) (HSJ.out.ext.trans hbl))
              clear hfr hbl hPJ hcJ
              go_wp2_with fail
              refine ret_one rfl rfl rfl ⟨vj, rfl, ?_, HX0.out.trans (HXW.out.trans HJ.out.2)⟩
              have hj := HJ.out.1
              rw [← join_inter, HKE.out, ← HTT.out] at hj
              simpa using hj
             ·have hvq : o.level = 3 := by omega
              rw [hvq] at o0
              clear hv3d
              go_wp2_with fail
              have HKE := Lib.hid (show joinS ([K1] ++ [K2] ++ [K3]) = keyL bookP (mostC bookP) o t.data.toList by
               have h := key_eq ho HAE.out HHE.out HLQ.out HKK.out.1 HKK.out.2.1 HKK.out.2.2.1 HKK.out.2.2.2
               rw [h, hvq, hsh]
               rfl)
              have HSJ := Lib.hid (HP3.out.1.more ((Ext.refl w33).alloc (.cells #[.int .u8 0, .int .u8 0] 5)))
              obtain ⟨gJ, cJ, vsJ, rfl, hcJ, hPJ⟩ := HSJ.out.parts (by simp)
              refine (Tryz.bytes_Join_many gJ 0 (([K1] ++ [K2] ++ [K3])).length cJ vsJ (([K1] ++ [K2] ++ [K3])) (.slice (some ⟨w33.heap.size, 0, none⟩) 2 2) [0, 0] _ rfl (by simp) hPJ hcJ (sep_holds w33) (by simp) (by
               have h1 := HKL.out
               have h2 := HTLN.out
               simp only [Lib.lens, List.map_cons, List.map_nil, List.sum_cons, List.sum_nil, List.cons_append, List.nil_append, List.length_cons, List.length_nil]
               omega)).mono ?_
              rintro e wz ⟨vj, rfl, hfr, hbl⟩
              have HJ := Lib.hid (And.intro (fresh_from hfr (HX0.out.trans (HXW.out.trans HSJ.out.ext)).sz) (HSJ.out.ext.trans hbl))
              clear hfr hbl hPJ hcJ
              go_wp2_with fail
              refine ret_one rfl rfl rfl ⟨vj, rfl, ?_, HX0.out.trans (HXW.out.trans HJ.out.2)⟩
              have hj := HJ.out.1
              rw [← join_inter, HKE.out, ← HTT.out] at hj
              simpa using hj
            | true =>
             rw [hsh] at o1
             go_wp2_with (at_builtin; refine Hid.out ?_)
             refine Lib.hid ?_
             refine wpList_sec rfl (.tmp 132) (.tmp 134) rfl rfl HP3.out.1 ((HoldU.of_own HRR.out.2.2.2).ext HP3.out.2) rfl w33.heap.size rfl rfl (by simp) ?_
             intro s4 w44 hS4 hx4
             have HP4 := Lib.hid (And.intro hS4 hx4)
             clear hS4 hx4 o0 o1 o2 o3 HP3
             obtain ⟨o0, o1, o2, o3⟩ := HB0.out w44 (HXW.out.trans HP4.out.2)
             rw [hsh] at o1
             by_cases hv4 : o.level = 4
             ·have hvq := hv4
              rw [hvq] at o0
              clear hv3d
              have hcv := fun w => Lib.run_convert_string_bytes (P := Tryz.prog) w 9 34 5 t Tryz.underlying9 Tryz.underlying34 Tryz.underlying5
              go_wp2_with (at_builtin; refine Hid.out ?_)
              refine Lib.hid ?_
              refine wpList_sec rfl (.tmp 139) (.tmp 142) rfl rfl (HP4.out.1.more (bytes_of w44 5 t).1) (HoldU.conv w44 t) rfl (Lib.bytesWorld w44 5 t).heap.size rfl rfl (by simp) ?_
              intro s5 w55 hS5 hx5
              have HP5 := Lib.hid (And.intro hS5 hx5)
              clear hS5 hx5 o0 o1 o2 o3
              have HKE := Lib.hid (show joinS (([K1] ++ [K2] ++ [K3] ++ [K4]) ++ [t.data.toList]) = keyL bookP (mostC bookP) o t.data.toList by
               have h := key_eq ho HAE.out HHE.out HLQ.out HKK.out.1 HKK.out.2.1 HKK.out.2.2.1 HKK.out.2.2.2
               rw [h, hvq, hsh]
               rfl)
              go_wp2_with fail
              have HSJ := Lib.hid (HP5.out.1.more ((Ext.refl w55).alloc (.cells #[.int .u8 0, .int .u8 0] 5)))
              obtain ⟨gJ, cJ, vsJ, rfl, hcJ, hPJ⟩ := HSJ.out.parts (by simp)
              refine (Tryz.bytes_Join_many gJ 0 ((([K1] ++ [K2] ++ [K3] ++ [K4]) ++ [t.data.toList])).length cJ vsJ ((([K1] ++ [K2] ++ [K3] ++ [K4]) ++ [t.data.toList])) (.slice (some ⟨w55.heap.size, 0, none⟩) 2 2) [0, 0] _ rfl (by simp) hPJ hcJ (sep_holds w55) (by simp) (by
               have h1 := HKL.out
               have h2 := HTLN.out
               simp only [Lib.lens, List.map_cons, List.map_nil, List.sum_cons, List.sum_nil, List.cons_append, List.nil_append, List.length_cons, List.length_nil]
               omega)).mono ?_
              rintro e wz ⟨vj, rfl, hfr, hbl⟩
              have HJ := Lib.hid (And.intro (fresh_from hfr (HX0.out.trans (HXW.out.trans HSJ.out.ext)).sz) (HSJ.out.ext.trans hbl))
              clear hfr hbl hPJ hcJ
              go_wp2_with fail
              refine ret_one rfl rfl rfl ⟨vj, rfl, ?_, HX0.out.trans (HXW.out.trans HJ.out.2)⟩
              have hj := HJ.out.1
              rw [← join_inter, HKE.out, ← HTT.out] at hj
              simpa using hj
             ·have hvq : o.level = 3 := by omega
              rw [hvq] at o0
              clear hv3d
              go_wp2_with fail
              have HKE := Lib.hid (show joinS ([K1] ++ [K2] ++ [K3] ++ [K4]) = keyL bookP (mostC bookP) o t.data.toList by
               have h := key_eq ho HAE.out HHE.out HLQ.out HKK.out.1 HKK.out.2.1 HKK.out.2.2.1 HKK.out.2.2.2
               rw [h, hvq, hsh]
               rfl)
              have HSJ := Lib.hid (HP4.out.1.more ((Ext.refl w44).alloc (.cells #[.int .u8 0, .int .u8 0] 5)))
              obtain ⟨gJ, cJ, vsJ, rfl, hcJ, hPJ⟩ := HSJ.out.parts (by simp)
              refine (Tryz.bytes_Join_many gJ 0 (([K1] ++ [K2] ++ [K3] ++ [K4])).length cJ vsJ (([K1] ++ [K2] ++ [K3] ++ [K4])) (.slice (some ⟨w44.heap.size, 0, none⟩) 2 2) [0, 0] _ rfl (by simp) hPJ hcJ (sep_holds w44) (by simp) (by
               have h1 := HKL.out
               have h2 := HTLN.out
               simp only [Lib.lens, List.map_cons, List.map_nil, List.sum_cons, List.sum_nil, List.cons_append, List.nil_append, List.length_cons, List.length_nil]
               omega)).mono ?_
              rintro e wz ⟨vj, rfl, hfr, hbl⟩
              have HJ := Lib.hid (And.intro (fresh_from hfr (HX0.out.trans (HXW.out.trans HSJ.out.ext)).sz) (HSJ.out.ext.trans hbl))
              clear hfr hbl hPJ hcJ
              go_wp2_with fail
              refine ret_one rfl rfl rfl ⟨vj, rfl, ?_, HX0.out.trans (HXW.out.trans HJ.out.2)⟩
              have hj := HJ.out.1
              rw [← join_inter, HKE.out, ← HTT.out] at hj
              simpa using hj
           ·have hvq : o.level = 2 := by omega
            rw [hvq] at o0
            clear hv2d
            go_wp2_with fail
            have HKE := Lib.hid (show joinS ([K1] ++ [K2]) = keyL bookP (mostC bookP) o t.data.toList by
             have h := key_eq ho HAE.out HHE.out HLQ.out HKK.out.1 HKK.out.2.1 HKK.out.2.2.1 HKK.out.2.2.2
             rw [h, hvq]
             rfl)
            have HSJ := Lib.hid (HP2.out.1.more ((Ext.refl w22).alloc (.cells #[.int .u8 0, .int .u8 0] 5)))
            obtain ⟨gJ, cJ, vsJ, rfl, hcJ, hPJ⟩ := HSJ.out.parts (by simp)
            refine (Tryz.bytes_Join_many gJ 0 (([K1] ++ [K2])).length cJ vsJ (([K1] ++ [K2])) (.slice (some ⟨w22.heap.size, 0, none⟩) 2 2) [0, 0] _ rfl (by simp) hPJ hcJ (sep_holds w22) (by simp) (by
             have h1 := HKL.out
             have h2 := HTLN.out
             simp only [Lib.lens, List.map_cons, List.map_nil, List.sum_cons, List.sum_nil, List.cons_append, List.nil_append, List.length_cons, List.length_nil]
             omega)).mono ?_
            rintro e wz ⟨vj, rfl, hfr, hbl⟩
            have HJ := Lib.hid (And.intro (fresh_from hfr (HX0.out.trans (HXW.out.trans HSJ.out.ext)).sz) (HSJ.out.ext.trans hbl))
            clear hfr hbl hPJ hcJ
            go_wp2_with fail
            refine ret_one rfl rfl rfl ⟨vj, rfl, ?_, HX0.out.trans (HXW.out.trans HJ.out.2)⟩
            have hj := HJ.out.1
            rw [← join_inter, HKE.out, ← HTT.out] at hj
            simpa using hj
          ·have hvq : o.level = 1 := by omega
           rw [hvq] at o0
           go_wp2_with fail
           clear o0 o1 o2 o3
           have HKE := Lib.hid (show K1 = keyL bookP (mostC bookP) o t.data.toList by
            have h := key_eq ho HAE.out HHE.out HLQ.out HKK.out.1 HKK.out.2.1 HKK.out.2.2.1 HKK.out.2.2.2
            rw [h, hvq]
            rfl)
           have hxz := (Ext.refl (wr.alloc (.cells #[.slice p8 K1.length c8] 34))).alloc (.cells #[.int .u8 0, .int .u8 0] 5)
           have hcz : ((wr.alloc (.cells #[.slice p8 K1.length c8] 34)).alloc (.cells #[.int .u8 0, .int .u8 0] 5)).cell? ⟨wr.heap.size, 0, none⟩ = some (.slice p8 K1.length c8) := hxz.cell ((cell_blk (World.alloc_heap_new wr _) 0).trans rfl)
           have HZ1 := Lib.hid (HXW.out.trans (hxs.trans hxz))
           have HR1 := Lib.hid (ownsRow_ext HRR.out.1 (hxs.trans hxz))
           by_cases hk1 : K1 = []
           ·have hz0 : K1.length = 0 := by rw [hk1]; rfl
            have hcz0 := hcz.trans (show some (Value.slice p8 K1.length c8) = some (.slice p8 0 c8) by rw [hz0])
            refine (Tryz.bytes_Join_one_empty wr.heap.size 0 1 p8 c8 _ _ hcz0).mono ?_
            rintro e wz ⟨rfl, ez⟩
            obtain rfl := ez.symm
            have HKZ := Lib.hid hk1
            clear ez hk1 hz0 hcz hcz0 hxz
            go_wp2_with fail
            refine ret_one rfl rfl rfl ⟨_, rfl, ?_, HX0.out.trans HZ1.out⟩
            have hj := HKE.out
            rw [HKZ.out, ← HTT.out] at hj
            have hj2 : keyL bookP (mostC bookP) o (formT 0 s.data.toList) = [] := by simpa using hj.symm
            rw [hj2]
            exact HoldsFrom.none _ _
           ·have hl1 : 0 < K1.length := List.length_pos_iff.2 hk1
            obtain ⟨g1, rfl, _, _, hg1⟩ := own_at HR1.out hl1
            refine (Tryz.bytes_Join_one wr.heap.size 0 1 ⟨g1, 0, none⟩ c8 K1 _ _ hcz (fun i x hx => by
             have hi := (List.getElem?_eq_some_iff.1 hx).1
             have hadd : (⟨g1, 0, none⟩ : Addr).add i = ⟨g1, i, none⟩ := by unfold Addr.add; split <;> simp_all
             rw [hadd, hg1 i (by omega)]
             simp [Lib.byteCells, hx]) hl1 (by have := HKL.out; omega)).mono ?_
            rintro e wz ⟨vj, rfl, hfr, hbl⟩
            have HJ := Lib.hid (And.intro (fresh_from hfr (HX0.out.trans HZ1.out).sz) (HZ1.out.trans hbl))
            clear hfr hbl hcz hxz hg1 hl1 hk1
            go_wp2_with fail
            refine ret_one rfl rfl rfl ⟨vj, rfl, ?_, HX0.out.trans HJ.out.2⟩
            have hj := HJ.out.1
            rw [HKE.out, ← HTT.out] at hj
            simpa using hj
 ·have HCK := Lib.hid (fun w => c_Check o w)
  rw [if_neg ho] at HCK
  have HKN := Lib.hid (show keyL bookP (mostC bookP) o (formT 0 s.data.toList) = [] from if_neg ho)
  go_enter Tryz.func16, Tryz.ntmps16
  go_wp2_with fail
  refine (HCK.out _).mono ?_
  rintro e w1 ⟨rfl, hx1⟩
  have HX1 := Lib.hid (((Ext.refl w).alloc _).trans hx1)
  clear hx1
  go_wp2_with fail
  refine ret_one rfl rfl rfl ⟨_, rfl, ?_, HX1.out⟩
  rw [HKN.out]
  exact HoldsFrom.none _ _
theorem c_Key (s : ByteArray) (o : Ord) (w : World) (hT : TabsC w) (hs : s.size ≤ 200) :
  Calls Tryz.prog 16 #[.string s, ordV o] w fun e w' => ∃ v, e = .returned v ∧ HoldsFrom w.heap.size w' v (keyL bookP (mostC bookP) o (formT 0 s.data.toList)) ∧ Ext w w' :=
 c_KeyG s o w hT (by omega) (by
  have h1 := formT_len 0 s.data.toList
  rw [len_eqC] at h1
  omega)
end Go.Proofs.YtokeamebcdhnpaaGreatDoor
end

section
namespace Go.Proofs.YtokeamebcdhnpaaGreatDoor
open Go.RowKit Go.Rp Go.Shelf Go.Maps Go.Cl

def cmpF (K L : List UInt8) : Int :=
 match (List.range (min K.length L.length)).find? fun i => K.getD i 0 != L.getD i 0 with
 | some i => if K.getD i 0 < L.getD i 0 then -1 else 1
 | none => if K.length < L.length then -1 else if K.length > L.length then 1 else 0
theorem cmpF_eq (K : List UInt8) : ∀ L, cmpF K L = cmpB K L := by
 induction K with
 | nil =>
  intro L
  cases L with
  | nil => rfl
  | cons b L => simp [cmpF, cmpB]
 | cons a K ih =>
  intro L
  cases L with
  | nil => simp [cmpF, cmpB]
  | cons b L =>
   have h1 := ih L
   unfold cmpF at h1 ⊢
   have hr : List.range (min (a :: K).length (b :: L).length) = 0 :: (List.range (min K.length L.length)).map Nat.succ := by
    rw [← List.range_succ_eq_map]
    congr 1
    simp only [List.length_cons]
    omega
   rw [hr, List.find?_cons]
   by_cases hab : a = b
   ·subst hab
    have h0 : ((a :: K).getD 0 0 != (a :: L).getD 0 0) = false := by simp
    have hn : ¬ a < a := UInt8.lt_irrefl a
    rw [h0, cmpB, if_neg hn, if_neg hn, ← h1, List.find?_map]
    have hp : ((fun i => (a :: K).getD i 0 != (a :: L).getD i 0) ∘ Nat.succ) = fun i => K.getD i 0 != L.getD i 0 := by
     funext i
     simp
    rw [hp]
    cases (List.range (min K.length L.length)).find? fun i => K.getD i 0 != L.getD i 0 with
    | some i => simp
    | none => simp
   ·have h0 : ((a :: K).getD 0 0 != (b :: L).getD 0 0) = true := by simp [hab]
    rw [h0]
    show (if a < b then (-1 : Int) else 1) = _
    rw [cmpB]
    rcases u8_tri a b with h | h | h
    ·rw [if_pos h, if_pos h]
    ·exact absurd h hab
    ·rw [if_neg (u8_asym h), if_neg (u8_asym h), if_pos h]
theorem cmp_eq (K L : List UInt8) : Extern.BytealgCompare.cmp ⟨K.toArray⟩ ⟨L.toArray⟩ = cmpB K L := by
 rw [← cmpF_eq]
 unfold Extern.BytealgCompare.cmp cmpF
 have hk : (⟨K.toArray⟩ : ByteArray).size = K.length := by rw [← len_eqC]
 have hl : (⟨L.toArray⟩ : ByteArray).size = L.length := by rw [← len_eqC]
 have hg : ∀ (M : List UInt8) (i : Nat), (⟨M.toArray⟩ : ByteArray)[i]! = M.getD i 0 := fun M i => by
  by_cases hi : i < M.length
  ·have h1 : i < (⟨M.toArray⟩ : ByteArray).size := by rw [← len_eqC]; exact hi
   rw [getElem!_pos (⟨M.toArray⟩ : ByteArray) i h1, List.getD_eq_getElem?_getD, List.getElem?_eq_getElem hi]
   rfl
  ·have h1 : ¬ i < (⟨M.toArray⟩ : ByteArray).size := by rw [← len_eqC]; exact hi
   rw [getElem!_neg (⟨M.toArray⟩ : ByteArray) i h1, List.getD_eq_getElem?_getD, List.getElem?_eq_none (by omega)]
   rfl
 rw [hk, hl]
 simp only [hg]
 cases (List.range (min K.length L.length)).find? fun i => K.getD i 0 != L.getD i 0 <;> rfl
theorem run_bytesH {P : Program} {w : World} {u : Value} {K : List UInt8} (h : Lib.HoldsBytes w u K) : (Extern.Bytes.bytesOf u).run P w = .ok ⟨K.toArray⟩ w := by
 obtain ⟨p, cap, rfl, h0, h1⟩ := h
 cases p with
 | none =>
  obtain rfl := h0 rfl
  rfl
 | some a =>
  have hl := Lib.run_loadBytesX (P := P) w (K.map fun x => (x.toNat : Int)) a .empty (fun j x hj => by
   rw [List.getElem?_map] at hj
   cases hk : K[j]? with
   | none => rw [hk] at hj; cases hj
   | some c =>
    rw [hk] at hj
    obtain rfl := Option.some.inj hj
    exact h1 a rfl j c hk)
  rw [List.length_map] at hl
  have hb : Lib.bytesOf (K.map fun x => (x.toNat : Int)) = K := Lib.bytesOf_numsL K
  rw [hb] at hl
  have he : (⟨ByteArray.empty.data ++ K.toArray⟩ : ByteArray) = ⟨K.toArray⟩ := by
   apply ByteArray.ext
   show (#[] : Array UInt8) ++ K.toArray = K.toArray
   simp
  rw [he] at hl
  exact hl
theorem run_bcmp {P : Program} {w : World} {u v : Value} {K L : List UInt8} (hu : Lib.HoldsBytes w u K) (hv : Lib.HoldsBytes w v L) : (Extern.BytealgCompare.compare #[u, v]).run P w = .ok (.int .i64 (cmpB K L)) w := by
 show Sem.run P (do pure (goInt (Extern.BytealgCompare.cmp (← Extern.Bytes.bytesOf u) (← Extern.Bytes.bytesOf v)))) w = _
 simp only [Sem.run_bind, Sem.run_pure, run_bytesH hu, run_bytesH hv, Result.andThen, cmp_eq]
 rfl
theorem cmpB_bounds (K L : List UInt8) : -1 ≤ cmpB K L ∧ cmpB K L ≤ 1 := by
 rcases cmpB_vals K L with h | h | h <;> omega
set_option maxRecDepth 100000 in
set_option maxHeartbeats 4000000 in
theorem c_bCmp (u v : Value) (K L : List UInt8) (w : World) (hu : Lib.HoldsBytes w u K) (hv : Lib.HoldsBytes w v L) :
  Calls Tryz.prog 43 #[u, v] w fun e w' => e = .returned (.int .i64 (cmpB K L)) ∧ w' = w := by
 have HU := Lib.hid hu
 have HV := Lib.hid hv
 obtain ⟨p, cp, rfl, _⟩ := hu
 obtain ⟨q, cq, rfl, _⟩ := hv
 go_enter Tryz.func43, Tryz.ntmps43
 go_wp2_with fail
 rw [run_callFunc_extern Tryz.func60 (by kernel_rfl) (by kernel_rfl) (by kernel_rfl) (e := Extern.BytealgCompare.compare) (by kernel_rfl), run_bcmp HU.out HV.out]
 simp only [Result.andThen]
 rw [Oper.upon_value]
 go_wp2_with fail
 exact ret_one rfl rfl rfl ⟨rfl, rfl⟩
theorem holds_ext {w w' : World} {v : Value} {K : List UInt8} (h : Lib.HoldsBytes w v K) (hx : Ext w w') : Lib.HoldsBytes w' v K := by
 obtain ⟨p, cap, e, h1, h2⟩ := h
 exact ⟨p, cap, e, h1, fun a ha i x hi => hx.cell (h2 a ha i x hi)⟩
/-- A text's key. -/
noncomputable def keyT (o : Ord) (s : ByteArray) : List UInt8 := keyL bookP (mostC bookP) o (formT 0 s.data.toList)
set_option maxRecDepth 100000 in
set_option maxHeartbeats 4000000 in
theorem c_Compare (a b : ByteArray) (o : Ord) (w : World) (hT : TabsC w) (ha : a.size ≤ 200) (hb : b.size ≤ 200) :
  Calls Tryz.prog 18 #[.string a, .string b, ordV o] w fun e w' => e = .returned (.int .i64 (cmpB (keyT o a) (keyT o b))) ∧ Ext w w' := by
 have HA := Lib.hid (fun w hT => c_Key a o w hT ha)
 have HB := Lib.hid (fun w hT => c_Key b o w hT hb)
 go_enter Tryz.func18, Tryz.ntmps18
 go_wp2_with fail
 have hx0 := (Ext.refl w).alloc (.cells #[.int .i64 o.level, .bool o.shift, .bool o.back, .bool o.great] 24)
 have hb0 := World.alloc_heap_new w (.cells #[.int .i64 o.level, .bool o.shift, .bool o.back, .bool o.great] 24)
 generalize w.alloc (.cells #[.int .i64 o.level, .bool o.shift, .bool o.back, .bool o.great] 24) = W0 at hx0 hb0 ⊢
 generalize w.heap.size = ob at hb0 ⊢
 have q0 : ∀ w', EOn (fun _ => True) W0 w' → w'.cell? ⟨ob, 0, none⟩ = some (.int .i64 o.level) := fun w' hx => hx.cell trivial ((cell_blk hb0 0).trans rfl)
 have q1 : ∀ w', EOn (fun _ => True) W0 w' → w'.cell? ⟨ob, 1, none⟩ = some (.bool o.shift) := fun w' hx => hx.cell trivial ((cell_blk hb0 1).trans rfl)
 have q2 : ∀ w', EOn (fun _ => True) W0 w' → w'.cell? ⟨ob, 2, none⟩ = some (.bool o.back) := fun w' hx => hx.cell trivial ((cell_blk hb0 2).trans rfl)
 have q3 : ∀ w', EOn (fun _ => True) W0 w' → w'.cell? ⟨ob, 3, none⟩ = some (.bool o.great) := fun w' hx => hx.cell trivial ((cell_blk hb0 3).trans rfl)
 have HX0 := Lib.hid hx0
 clear hx0 hb0
 refine wp_perm (fun _ => True) [0, 1, 3, 4, 2, 5, 6, 7] [true, true, true, true, false, false, false] (by kernel_rfl) (by kernel_rfl) (by simp only [List.map_cons, List.map_nil, nth]; rfl) ?_
 repeat first
  | refine wpG_move' ?_
  | refine wpG_assign' ?_
  | refine wpG_val' ?_
  | refine wpG_no' ?_
 clear q0 q1 q2 q3
 refine wpG_do (by rfl) (fun w1 hx1 K hK => ?_)
 go_wp2_with fail
 refine (HA.out w1 (hT.ext (HX0.out.trans hx1))).mono ?_
 rintro e w2 ⟨va, rfl, ⟨hka, _⟩, hx2⟩
 refine hK _ _ ⟨EOn.of_ext hx2, ?_⟩
 clear hK
 refine wpG_do (by rfl) (fun w3 hx3 K hK => ?_)
 go_wp2_with fail
 have hx03 := HX0.out.trans (hx1.trans (hx2.trans hx3))
 refine (HB.out w3 (hT.ext hx03)).mono ?_
 rintro e w4 ⟨vb, rfl, ⟨hkb, _⟩, hx4⟩
 refine hK _ _ ⟨EOn.of_ext hx4, ?_⟩
 clear hK
 refine wpG_do (by rfl) (fun w5 hx5 K hK => ?_)
 have HP := Lib.hid (And.intro (holds_ext hka (hx3.trans (hx4.trans hx5))) (And.intro (holds_ext hkb hx5) (hx03.trans (hx4.trans hx5))))
 clear hka hkb hx1 hx2 hx3 hx4 hx5 hx03
 go_wp2_with fail
 refine (c_bCmp va vb _ _ w5 HP.out.1 HP.out.2.1).mono ?_
 rintro e w6 ⟨rfl, e6⟩
 obtain rfl := e6.symm
 clear e6
 refine hK _ _ ⟨EOn.refl _ _, ?_⟩
 clear hK
 refine wpG_end (fun w7 hx7 => ?_)
 have HX7 := Lib.hid (HP.out.2.2.trans hx7)
 clear hx7
 go_wp2_with fail
 refine gQ_normal ?_
 go_wp2_with fail
 exact ret_one rfl rfl rfl ⟨rfl, HX7.out⟩
end Go.Proofs.YtokeamebcdhnpaaGreatDoor
end
