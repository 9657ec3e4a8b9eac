/-
 The document's order of texts. What is found in a list, both ways. Groups of texts that compare as the same: as they stand in memory. Groups of texts, both ways.
-/
import Derived.Test.YtokeamebcdhnpaaGreatDoorKwKCL
import Derived.Test.YtokeamebcdhnpaaGreatDoorStrM
section
namespace Go.Proofs.YtokeamebcdhnpaaGreatDoor
open Go.RowKit Go.Rp Go.Shelf Go.Maps Go.Cl

theorem own_setI {W : World} {B g n c i : Nat} {xs : List Value} (h : W.ownsRow B 3 1 (.slice (some ⟨g, 0, none⟩) n c) n xs) (u : Value) : (W.setCell ⟨g, i, none⟩ u).ownsRow B 3 1 (.slice (some ⟨g, 0, none⟩) n c) n (xs.set i u) := by
 obtain ⟨h1, h2⟩ := h
 refine ⟨by rw [List.length_set]; exact h1, ?_⟩
 rcases h2 with ⟨e, _⟩ | ⟨g', cap, cur, e, hb, hg, hc, hm, hs, ht⟩
 ·cases e
 ·cases e
  refine .inr ⟨g, c, cur.setIfInBounds i u, rfl, hb, set_blk hg i u, hc, hm, by simpa using hs, ?_⟩
  rw [Array.toList_setIfInBounds, List.take_set, ht]
theorem own_blk {W : World} {B : Nat} {e : TypeId} {s n g c : Nat} {xs : List Value} (h : W.ownsRow B e s (.slice (some ⟨g, 0, none⟩) n c) n xs) : (∃ cur, W.heap[g]? = some (.cells cur e (0, 0))) ∧ True := by
 rcases h.2 with ⟨e, _⟩ | ⟨g', cap, cur, e, _, hg, _⟩
 ·cases e
 ·cases e
  exact ⟨⟨cur, hg⟩, trivial⟩
theorem own_keepT {W W' : World} {B : Nat} {e e' : TypeId} {s n : Nat} {v : Value} {xs : List Value} (h : W.ownsRow B e s v n xs) (hk : KeepTy e' W W') (hne : e ≠ e') : W'.ownsRow B e s v n xs := by
 obtain ⟨h1, h2⟩ := h
 refine ⟨h1, ?_⟩
 rcases h2 with h2 | ⟨g, cap, cur, e1, hb, hg, h3⟩
 ·exact .inl h2
 ·exact .inr ⟨g, cap, cur, e1, hb, hk g _ hg (fun c z e2 => by cases e2; exact hne rfl), h3⟩
theorem HoldU.keepT {W W' : World} {u : Value} {K : List UInt8} {e : TypeId} (h : HoldU W u K) (hk : KeepTy e W W') (hne : 5 ≠ e) : HoldU W' u K := by
 obtain ⟨p, cap, e1, h0, h1⟩ := h
 refine ⟨p, cap, e1, h0, fun a ha => ?_⟩
 obtain ⟨g, cs, fz, e2, hg, hc⟩ := h1 a ha
 exact ⟨g, cs, fz, e2, hk g _ hg (fun c z e3 => by cases e3; exact hne rfl), hc⟩
/-- The keys so far. -/
structure KOwn (B : Nat) (W : World) (kv : Value) (Ks : List (List UInt8)) : Prop where
 ex : ∃ vs : List Value, W.ownsRow B 34 1 kv Ks.length vs ∧ ∀ (i : Nat) u K, vs[i]? = some u → Ks[i]? = some K → HoldU W u K
theorem KOwn.keep {B : Nat} {W W' : World} {kv : Value} {Ks : List (List UInt8)} {e : TypeId} (h : KOwn B W kv Ks) (hk : KeepTy e W W') (h1 : 5 ≠ e) (h2 : 34 ≠ e) : KOwn B W' kv Ks := by
 obtain ⟨vs, a, b⟩ := h.ex
 exact ⟨vs, own_keepT a hk h2, fun i u K x y => (b i u K x y).keepT hk h1⟩
theorem KOwn.ext {B : Nat} {W W' : World} {kv : Value} {Ks : List (List UInt8)} (h : KOwn B W kv Ks) (hx : Ext W W') : KOwn B W' kv Ks := by
 obtain ⟨vs, a, b⟩ := h.ex
 exact ⟨vs, ownsRow_ext a hx, fun i u K x y => (b i u K x y).ext hx⟩
theorem KOwn.at {B : Nat} {W : World} {kv : Value} {Ks : List (List UInt8)} (h : KOwn B W kv Ks) {i : Nat} (hi : i < Ks.length) : ∃ g cap u, kv = .slice (some ⟨g, 0, none⟩) Ks.length cap ∧ W.cell? ⟨g, i, none⟩ = some u ∧ Lib.HoldsBytes W u Ks[i] := by
 obtain ⟨vs, a, b⟩ := h.ex
 obtain ⟨p, cap, rfl⟩ := own_slice a
 obtain ⟨g, rfl, _, _, hc⟩ := own_at a (by omega)
 have hl := a.1
 have hiv : i < vs.length := by omega
 exact ⟨g, cap, vs[i], rfl, (hc i (by omega)).trans (List.getElem?_eq_getElem hiv), (b i _ _ (List.getElem?_eq_getElem hiv) (List.getElem?_eq_getElem hi)).bytes⟩
theorem KeepTy.cell {W : World} {B : Nat} {e : TypeId} {s n : Nat} {xs : List Value} {g c : Nat} (h : W.ownsRow B e s (.slice (some ⟨g, 0, none⟩) n c) n xs) (i : Nat) (u : Value) : KeepTy e W (W.setCell ⟨g, i, none⟩ u) :=
 KeepTy.of_grown h (grown_cell W g i u)
set_option maxRecDepth 100000 in
set_option maxHeartbeats 8000000 in
theorem c_bkSort (kb : Nat) (v : Value) (l : List ByteArray) (o : Ord) (w : World) (hk : BkAt w kb) (h : StrRow w v l) (hl : l.length ≤ 100) (hs : ∀ s ∈ l, s.size ≤ 200) (ho : 1 ≤ o.level ∧ o.level ≤ 4) :
  Calls Tryz.prog 28 #[.pointer (some ⟨kb, 0, none⟩), v, ordV o] w fun e w' => ∃ u, e = .returned u ∧ w'.ownsRow w.heap.size 3 1 u l.length (intsN (sortI (fun x y => decide (cmpB (keyT o (l.getD x ⟨#[]⟩)) (keyT o (l.getD y ⟨#[]⟩)) < 0)) (List.range l.length))) ∧ Ext w w' := by
 have HCK := Lib.hid (fun w => c_RCheck o w)
 rw [if_pos ho] at HCK
 have HS := Lib.hid hs
 have HW := Lib.hid h
 have HK := Lib.hid hk
 obtain ⟨p, cap, rfl, hp⟩ := h
 have HP := Lib.hid hp
 have hlI : ((l.length : Nat) : Int) ≤ 100 := by omega
 clear hp hs hk
 have hHS : Hid (∃ i0, Tryz.prog.info? 34 = some i0 ∧ i0.zero = some (.slice none 0 0) ∧ i0.size = 1 ∧ i0.bytes = 24) := by
  obtain ⟨i0, hi, hz0, hz1, hz2⟩ := info_parts Tryz.infoSec
  exact ⟨i0, hi, hz0, hz1, hz2⟩
 have hHI : Hid (∃ i0, Tryz.prog.info? 3 = some i0 ∧ i0.zero = some (.int .i64 0) ∧ i0.size = 1 ∧ i0.bytes = 8) := by
  obtain ⟨i0, hi, hz0, hz1, hz2⟩ := info_parts Tryz.infoInt
  exact ⟨i0, hi, hz0, hz1, hz2⟩
 obtain ⟨lt, hlt0⟩ : ∃ lt : Nat → Nat → Bool, (fun x y => decide (cmpB (keyT o (l.getD x ⟨#[]⟩)) (keyT o (l.getD y ⟨#[]⟩)) < 0)) = lt := ⟨_, rfl⟩
 have HLT := Lib.hid hlt0
 rw [hlt0]
 clear hlt0
 go_enter Tryz.func28, Tryz.ntmps28
 go_wp2_with fail
 have hx0 := (Ext.refl w).alloc (.cells #[.int .i64 o.level, .bool o.shift, .bool o.back, .bool o.great] 24)
 have hb0 := World.alloc_heap_new w (.cells #[.int .i64 o.level, .bool o.shift, .bool o.back, .bool o.great] 24)
 generalize w.alloc (.cells #[.int .i64 o.level, .bool o.shift, .bool o.back, .bool o.great] 24) = W0 at hx0 hb0 ⊢
 obtain ⟨ob, hob⟩ : ∃ ob, w.heap.size = ob := ⟨_, rfl⟩
 rw [hob] at hb0
 have HOB := Lib.hid (And.intro hob hb0)
 simp only [hob]
 clear hob hb0
 refine (HCK.out _).mono ?_
 rintro e w1 ⟨rfl, hx1⟩
 have HX1 := Lib.hid (hx0.trans hx1)
 have HB1 := Lib.hid (hx1.blk HOB.out.2)
 clear hx0 hx1
 obtain ⟨W1, rfl⟩ : ∃ x, x = w1 := ⟨_, rfl⟩
 go_wp2_with fail
 go_loopw [7, 8, 9] (fun kv ov iv W => ∃ i : Nat, iv = .int .i64 (i : Nat) ∧ i ≤ l.length ∧ Hid (KOwn W1.heap.size W kv ((l.take i).map (keyT o))) ∧ Hid (W.ownsRow W1.heap.size 3 1 ov i (intsN (sortI lt (List.range i)))) ∧ Hid (Ext W1 W)) (fun _ _ iv _ => l.length + 1 - (intOf iv).toNat)
 case atStart => exact ⟨0, rfl, by omega, Lib.hid ⟨[], World.ownsRow_nil _ _ _ _, fun i u K a => by simp at a⟩, Lib.hid (World.ownsRow_nil _ _ _ _), Lib.hid (Ext.refl _)⟩
 case round =>
  obtain ⟨i, rfl, hi, HKO, HOO, HX⟩ := hrel
  obtain ⟨Wi, rfl⟩ : ∃ Wi, Wi = wr := ⟨wr, rfl⟩
  by_cases hlt : i < l.length
  ·have hI : ((i : Nat) : Int) < (l.length : Nat) := by omega
   have hd : decide (i < l.length) = true := decide_eq_true hlt
   obtain ⟨pk, ck, rfl⟩ : ∃ p c, u7 = .slice p i c := by
    obtain ⟨vs, a, _⟩ := HKO.out.ex
    obtain ⟨p, c, e⟩ := own_slice a
    exact ⟨p, c, by rw [e, List.length_map, List.length_take, Nat.min_eq_left hi]⟩
   obtain ⟨po, co, rfl⟩ := own_slice HOO.out
   have hxw := HX1.out.trans HX.out
   obtain ⟨b, off, rfl, _, hcl⟩ := HP.out (by intro e; subst e; simp at hlt)
   have cs := hxw.cell (hcl i hlt)
   have HBL := Lib.hid (show b < W1.heap.size ∧ ob < W1.heap.size from ⟨Nat.lt_of_lt_of_le (cell_lt (hcl i hlt)) HX1.out.sz, blk_lt HB1.out⟩)
   obtain ⟨s, hse⟩ : ∃ s, l[i] = s := ⟨_, rfl⟩
   rw [hse] at cs
   have HSS := Lib.hid (show s.size ≤ 200 ∧ l.take (i + 1) = l.take i ++ [s] from ⟨HS.out s (by rw [← hse]; exact List.getElem_mem hlt), by rw [← hse]; exact List.take_succ_eq_append_getElem hlt⟩)
   clear hcl hse hxw
   go_wp2_with fail
   have b0 := HX.out.blk HB1.out
   have s0 : ∀ w', EOn (fun a => a.block < W1.heap.size) Wi w' → w'.cell? ⟨b, off + i, none⟩ = some (.string s) := fun w' hx => hx.cell HBL.out.1 cs
   have q0 : ∀ w', EOn (fun a => a.block < W1.heap.size) Wi w' → w'.cell? ⟨ob, 0, none⟩ = some (.int .i64 o.level) := fun w' hx => hx.cell HBL.out.2 ((cell_blk b0 0).trans rfl)
   have q1 : ∀ w', EOn (fun a => a.block < W1.heap.size) Wi w' → w'.cell? ⟨ob, 1, none⟩ = some (.bool o.shift) := fun w' hx => hx.cell HBL.out.2 ((cell_blk b0 1).trans rfl)
   have q2 : ∀ w', EOn (fun a => a.block < W1.heap.size) Wi w' → w'.cell? ⟨ob, 2, none⟩ = some (.bool o.back) := fun w' hx => hx.cell HBL.out.2 ((cell_blk b0 2).trans rfl)
   have q3 : ∀ w', EOn (fun a => a.block < W1.heap.size) Wi w' → w'.cell? ⟨ob, 3, none⟩ = some (.bool o.great) := fun w' hx => hx.cell HBL.out.2 ((cell_blk b0 3).trans rfl)
   clear b0 cs
   refine wp_lexN ((fun a => a.block < W1.heap.size)) [true, true, true, true, true, true, true, false, false, false] (by kernel_rfl) (by kernel_rfl) ?_
   repeat first
    | refine wpG_move' ?_
    | refine wpG_assign' ?_
    | refine wpG_val' ?_
    | refine wpG_no' ?_
   clear s0 q0 q1 q2 q3
   refine wpG_do (by rfl) (fun w5 hx5 K hK => ?_)
   go_wp2_with fail
   have HX5 := Lib.hid (HX.out.trans hx5)
   refine (c_bkKeyO kb s o w5 (HK.out.ext (HX1.out.trans HX5.out)) HSS.out.1).mono ?_
   rintro e w6 ⟨u, rfl, hu, hx6⟩
   obtain ⟨up, uc, rfl⟩ := own_slice hu
   refine hK _ _ ⟨EOn.of_ext hx6, ?_⟩
   clear hK
   have HX6 := Lib.hid (hx5.trans hx6)
   have HU := Lib.hid (HoldU.of_own hu)
   clear hx5 hx6 hu
   refine wpG_do (by rfl) (fun w7 hx7 K hK => ?_)
   go_wp2_with fail
   refine ⟨EOn.of_ext ((Ext.refl w7).alloc _), ?_⟩
   obtain ⟨kl, hkl⟩ : ∃ n, (keyT o s).length = n := ⟨_, rfl⟩
   rw [hkl]
   have hx8 := hx7.alloc (.cells #[.slice up kl uc] 34)
   have hnew := World.alloc_heap_new w7 (.cells #[.slice up kl uc] 34)
   generalize w7.alloc (.cells #[.slice up kl uc] 34) = w8 at hx8 hnew ⊢
   generalize w7.heap.size = gb at hnew ⊢
   have HX8 := Lib.hid (HX6.out.trans hx8)
   have HU8 := Lib.hid (HU.out.ext hx8)
   have HKO8 := Lib.hid (HKO.out.ext HX8.out)
   clear hx7 hx8 HKO
   obtain ⟨vs, hko, hkh⟩ := HKO8.out.ex
   have hlt2 : (List.map (keyT o) (l.take i)).length = i := by rw [List.length_map, List.length_take, Nat.min_eq_left hi]
   rw [hlt2] at hko
   have HKV := Lib.hid (And.intro hko hkh)
   clear hko hkh HKO8
   obtain ⟨i0, hi0, hz0, hz1, hz3⟩ := hHS.out
   refine wpG_push rfl (fun a w h => by cases h.1) (.tmp 20) (.tmp 28) 67 rfl 34 i0 (.slice none 0 0) 1 24 Tryz.underlying67 hi0 hz0 hz1 hz3 rfl (by decide) rfl HKV.out.1 (HX.out.trans HX8.out).sz [.slice up kl uc] gb 0 1 1 rfl rfl (fun j hj => by
    match j, hj with
    | 0, _ => exact (cell_blk hnew 0).trans rfl) (by intro u hu; simp at hu; subst hu; rfl) (fun ad hS eq => by
    have h1 := (HKV.out.1.lt _ eq).1
    have h2 : ad.block < W1.heap.size := hS
    omega) (by omega) (by decide) ?_
   intro v2 w9 w10 hx9 g1 g2 g4
   have HKN := Lib.hid (show KOwn W1.heap.size w10 v2 ((l.take (i + 1)).map (keyT o)) from by
    have hown9 := ownsRow_ext HKV.out.1 hx9
    have hkt : KeepTy 34 w9 w10 := KeepTy.of_grown hown9 g2
    refine ⟨vs ++ [.slice up kl uc], ?_, fun j z L a b => ?_⟩
    ·rw [HSS.out.2, List.map_append, List.length_append, hlt2]
     exact g1
    ·have hvl := HKV.out.1.1
     rw [HSS.out.2, List.map_append] at b
     by_cases hji : j < i
     ·rw [List.getElem?_append_left (by omega)] at a
      rw [List.getElem?_append_left (by omega)] at b
      exact ((HKV.out.2 j z L a b).ext hx9).keepT hkt (by decide)
     ·have hje : j = i := by
       have := (List.getElem?_eq_some_iff.1 a).1
       simp at this
       omega
      subst hje
      rw [List.getElem?_append_right (by omega), show j - vs.length = 0 by omega] at a
      rw [List.getElem?_append_right (by omega), hlt2, Nat.sub_self] at b
      obtain rfl := Option.some.inj a
      obtain rfl := Option.some.inj b
      have hh := HU8.out.ext hx9
      rw [hkl] at hh
      exact hh.keepT hkt (by decide))
   have HON := Lib.hid (show w10.ownsRow W1.heap.size 3 1 (.slice po i co) i (intsN (sortI lt (List.range i))) from (ownsRow_ext HOO.out (HX8.out.trans hx9)).kept g2 (own_ne (ownsRow_ext HOO.out (HX8.out.trans hx9)) (ownsRow_ext HKV.out.1 hx9) (by decide)))
   have HXN := Lib.hid (show Ext W1 w10 from Below.grown (HX.out.trans (HX8.out.trans hx9)) g2 (HX.out.trans (HX8.out.trans hx9)).sz (fun k e => ((ownsRow_ext HKV.out.1 hx9).lt k e).1))
   clear g1 g2 g4 hx9 hnew HKV HU8 HU HX8 HOO
   refine wpG_end (fun w11 hx11 => ?_)
   replace HKN := Lib.hid (HKN.out.ext hx11)
   replace HON := Lib.hid (ownsRow_ext HON.out hx11)
   replace HXN := Lib.hid (HXN.out.trans hx11)
   clear hx11 hlt2
   go_wp2_with fail
   refine gQ_normal ⟨rfl, ?_⟩
   go_wp2_with (at_builtin; refine Hid.out ?_)
   refine Lib.hid ?_
   obtain ⟨j0, hj0, hy0, hy1, hy3⟩ := hHI.out
   have hxa := (Ext.refl w11).alloc (.cells #[.int .i64 (i : Nat)] 3)
   have hba := World.alloc_heap_new w11 (.cells #[.int .i64 (i : Nat)] 3)
   generalize w11.alloc (.cells #[.int .i64 (i : Nat)] 3) = wa at hxa hba ⊢
   generalize w11.heap.size = nb at hba ⊢
   have HKA := Lib.hid (HKN.out.ext hxa)
   have HOA := Lib.hid (ownsRow_ext HON.out hxa)
   have HXA := Lib.hid (HXN.out.trans hxa)
   refine wpList_append_own_at wa rfl (.tmp 30) (.tmp 32) 42 rfl W1.heap.size 3 j0 (.int .i64 0) 1 8 Tryz.underlying42 hj0 hy0 hy1 hy3 rfl (by decide) _ i (intsN (sortI lt (List.range i))) rfl HOA.out ⟨nb, 0, none⟩ 1 1 [.int .i64 (i : Nat)] rfl rfl (fun j u hj => by rw [Addr.add_lit]; exact (cell_blk hba (0 + j)).trans (by simpa using hj)) (by intro u hu; simp at hu; subst hu; rfl) (by unfold maxLen; omega) (by omega) HXA.out.sz ?_
   intro v' w12 g1 g2 _ _
   have hkt : KeepTy 3 wa w12 := KeepTy.of_grown HOA.out g2
   have HK2 := Lib.hid (HKA.out.keep hkt (by decide) (by decide))
   have HX2 := Lib.hid (show Ext W1 w12 from Below.grown HXA.out g2 HXA.out.sz (fun k e => (HOA.out.lt k e).1))
   have HO2 := Lib.hid (show w12.ownsRow W1.heap.size 3 1 v' (i + 1) (intsN (sortI lt (List.range i) ++ [i])) by rw [intsN, List.map_append]; exact g1)
   obtain ⟨pn, cn, rfl⟩ := own_slice g1
   obtain ⟨go, rfl, _, _, _⟩ := own_at g1 (by omega)
   clear g1 g2 hkt hxa hba HKN HON HXN HKA HOA HXA
   obtain ⟨pv2, cv2, rfl⟩ : ∃ p c, v2 = .slice p (i + 1) c := by
    obtain ⟨vs, a, _⟩ := HK2.out.ex
    obtain ⟨p, c, e⟩ := own_slice a
    exact ⟨p, c, by rw [e, List.length_map, List.length_take, Nat.min_eq_left (by omega)]⟩
   have HLE := Lib.hid (show (sortI lt (List.range i)).length = i ∧ (∀ y ∈ sortI lt (List.range i), y < i) from ⟨by rw [sortI_len, List.length_range], fun y hy => List.mem_range.1 ((sortI_mem lt _ y).1 hy)⟩)
   have HKG := Lib.hid (show ∀ y, y ≤ i → ∃ h : y < ((l.take (i + 1)).map (keyT o)).length, ((l.take (i + 1)).map (keyT o))[y]'h = keyT o (l.getD y ⟨#[]⟩) ∧ (keyT o (l.getD y ⟨#[]⟩)).length ≤ 100000000 from fun y hy => ⟨by rw [List.length_map, List.length_take]; omega, by
    have hyl : y < l.length := by omega
    rw [List.getElem_map, List.getElem_take, List.getD_eq_getElem?_getD, List.getElem?_eq_getElem hyl]
    rfl, by
    have hyl : y < l.length := by omega
    rw [List.getD_eq_getElem?_getD, List.getElem?_eq_getElem hyl]
    exact key_le o _ (HS.out _ (List.getElem_mem hyl))⟩)
   have hcn : i + 1 ≤ cn := by
    rcases HO2.out.2 with ⟨e, _⟩ | ⟨g, cap, cur, e, _, _, h, _⟩
    ·cases e
    ·cases e
     exact h
   go_wp2_with fail
   go_loopw [10] (fun nv W => ∃ (j : Nat) (P1 P2 : List Nat), nv = .int .i64 (j : Nat) ∧ Hid (j = P1.length ∧ P1 ++ P2 = sortI lt (List.range i) ∧ ∀ y ∈ P2, lt i y = true) ∧ Hid (W.ownsRow W1.heap.size 3 1 (.slice (some ⟨go, 0, none⟩) (i + 1) cn) (i + 1) (intsN (P1 ++ i :: P2))) ∧ Hid (KOwn W1.heap.size W (.slice pv2 (i + 1) cv2) ((l.take (i + 1)).map (keyT o))) ∧ Hid (Ext W1 W)) (fun nv _ => (intOf nv).toNat)
   case atStart => exact ⟨i, sortI lt (List.range i), [], rfl, Lib.hid ⟨HLE.out.1.symm, by simp, fun y hy => by cases hy⟩, HO2, HK2, HX2⟩
   case round =>
    clear HO2 HK2 HX2 HX
    obtain ⟨j, P1, P2, rfl, HP, HB, HKK, HY⟩ := hrel
    rcases List.eq_nil_or_concat P1 with rfl | ⟨P, y, rfl⟩
    ·obtain rfl : j = 0 := by simpa using HP.out.1
     have hnn : ¬ (0 : Int) < ((0 : Nat) : Int) := by omega
     have HEND := Lib.hid (show sortI lt (List.range (i + 1)) = i :: P2 by
      rw [List.range_succ, sortI_snoc, ← HP.out.2.1, insB_at HP.out.2.2 (.inl rfl)]
      rfl)
     go_wp2_with fail
     refine wp_lex (fun _ => True) [true, true, true, true, true, true, true, true, true, true, true, true, true, true, true, true, true, true, true, true, true] (by kernel_rfl) (by kernel_rfl) ?_
     repeat first
      | refine wpG_move' ?_
      | refine wpG_assign' ?_
      | refine wpG_val' ?_
      | refine wpG_no' ?_
     refine wpG_end (fun w5 hx5 => ?_)
     have HE5 := Lib.hid (show w5.ownsRow W1.heap.size 3 1 (.slice (some ⟨go, 0, none⟩) (i + 1) cn) (i + 1) (intsN (sortI lt (List.range (i + 1)))) by rw [HEND.out]; exact ownsRow_ext HB.out hx5)
     have HK5 := Lib.hid (HKK.out.ext hx5)
     have HX5 := Lib.hid (HY.out.trans hx5)
     clear hx5 HB HKK HY
     go_wp2_with fail
     refine gQ_normal ?_
     go_wp2_with fail
     exact ⟨⟨i + 1, by simp, by omega, HK5, HE5, HX5⟩, by simp only [intOf]; omega⟩
    ·rw [List.concat_eq_append] at HP HB
     obtain ⟨j1, rfl⟩ : ∃ j1, j = j1 + 1 := ⟨j - 1, by have h := HP.out.1; rw [List.length_append] at h; simp at h; omega⟩
     have HJ := Lib.hid (show j1 = P.length by have h := HP.out.1; rw [List.length_append] at h; simp at h; omega)
     have hyi : y < i := HLE.out.2 y (by rw [← HP.out.2.1]; simp)
     have hji : j1 < i := by
      have h1 := congrArg List.length HP.out.2.1
      rw [HLE.out.1] at h1
      simp only [List.length_append, List.length_cons, List.length_nil] at h1
      have := HJ.out
      omega
     have hj0 : (0 : Int) < (j1 : Nat) + 1 := by omega
     have hn1 : ((j1 : Nat) : Int) + 1 < (i : Nat) + 1 := by omega
     have hn0 : ((j1 : Nat) : Int) < (i : Nat) + 1 := by omega
     have hyI : ((y : Nat) : Int) < (i : Nat) + 1 := by omega
     have hiI : ((i : Nat) : Int) < (i : Nat) + 1 := by omega
     obtain ⟨g2, e2, _, _, hgc⟩ := own_at HB.out (by omega)
     cases e2
     have c0 : wr.cell? ⟨go, j1, none⟩ = some (.int .i64 (y : Nat)) := by
      rw [hgc j1 (by omega)]
      have hh := HJ.out
      subst hh
      simp [intsN]
     have c1 : wr.cell? ⟨go, j1 + 1, none⟩ = some (.int .i64 (i : Nat)) := by
      rw [hgc (j1 + 1) (by omega)]
      have hh := HJ.out
      subst hh
      simp [intsN]
     obtain ⟨hyl, hye, hyb⟩ := HKG.out y (by omega)
     obtain ⟨hil, hie, hib⟩ := HKG.out i (Nat.le_refl _)
     obtain ⟨gk, ck2, uy, ek, ky, hky⟩ := HKK.out.at hyl
     obtain ⟨gk2, ck3, ui, ek2, ki, hki⟩ := HKK.out.at hil
     rw [hye] at hky
     rw [hie] at hki
     have hkl2 : ((l.take (i + 1)).map (keyT o)).length = i + 1 := by rw [List.length_map, List.length_take, Nat.min_eq_left (by omega)]
     rw [hkl2] at ek ek2
     cases ek
     cases ek2
     have HHY := Lib.hid hky
     have HHI := Lib.hid hki
     obtain ⟨pu, cu, rfl, _⟩ := hky
     obtain ⟨pi2, ci2, rfl, _⟩ := hki
     have y0 : ∀ w', EOn (fun _ => True) wr w' → w'.cell? ⟨go, j1, none⟩ = some (.int .i64 (y : Nat)) := fun w' hx => hx.cell trivial c0
     have y1 : ∀ w', EOn (fun _ => True) wr w' → w'.cell? ⟨go, j1 + 1, none⟩ = some (.int .i64 (i : Nat)) := fun w' hx => hx.cell trivial c1
     have HLTY := Lib.hid (show lt i y = decide (cmpB (keyT o (l.getD i ⟨#[]⟩)) (keyT o (l.getD y ⟨#[]⟩)) < 0) by rw [← HLT.out])
     obtain ⟨KY, hKY⟩ : ∃ x, keyT o (l.getD y ⟨#[]⟩) = x := ⟨_, rfl⟩
     obtain ⟨KI, hKI⟩ : ∃ x, keyT o (l.getD i ⟨#[]⟩) = x := ⟨_, rfl⟩
     rw [hKY, hKI] at HLTY
     rw [hKY] at HHY hyb ky
     rw [hKI] at HHI hib ki
     obtain ⟨ly, hly⟩ : ∃ n, KY.length = n := ⟨_, rfl⟩
     obtain ⟨li, hli⟩ : ∃ n, KI.length = n := ⟨_, rfl⟩
     rw [hly] at ky
     rw [hli] at ki
     have HCL := Lib.hid (fun w' (hx : Ext wr w') => c_ROrder _ _ KY KI w' (holds_ext HHY.out hx) (holds_ext HHI.out hx) hyb hib)
     rw [hly, hli] at HCL
     obtain ⟨cv, hcv⟩ : ∃ c, cmpB KY KI = c := ⟨_, rfl⟩
     have HCV := Lib.hid (show lt i y = decide (0 < cv) by
      rw [HLTY.out, ← hcv, cmpB_swap KY KI]
      by_cases hz : cmpB KY KI > 0
      ·rw [decide_eq_true (by omega), decide_eq_true (by omega)]
      ·rw [decide_eq_false (by omega), decide_eq_false (by omega)])
     rw [hcv] at HCL
     have z0 : ∀ w', EOn (fun _ => True) wr w' → w'.cell? ⟨gk, y, none⟩ = some (.slice pu ly cu) := fun w' hx => hx.cell trivial ky
     have z1 : ∀ w', EOn (fun _ => True) wr w' → w'.cell? ⟨gk, i, none⟩ = some (.slice pi2 li ci2) := fun w' hx => hx.cell trivial ki
     have HHJ := Lib.hid hji
     clear c0 c1 ky ki hcv hKY hKI HHY HHI HLTY hyb hib hly hli hye hie hyl hil hkl2 hgc hyi hji
     go_wp2_with fail
     refine wp_lex (fun _ => True) [true, true, true, true, true, true, true, true, true, true, true, true, true, true, true, true, true, true, false, true, true] (by kernel_rfl) (by kernel_rfl) ?_
     repeat first
      | refine wpG_move' ?_
      | refine wpG_assign' ?_
      | refine wpG_val' ?_
      | refine wpG_no' ?_
     refine wpG_do (by rfl) (fun w5 hx5 K hK => ?_)
     go_wp2_with fail
     refine (HCL.out w5 hx5).mono ?_
     rintro e w6 ⟨rfl, hx6⟩
     refine hK _ _ ⟨EOn.of_ext hx6, ?_⟩
     clear hK z0 z1
     by_cases hneg : 0 < cv
     ·have hdn : decide (0 < cv) = true := decide_eq_true hneg
      repeat first
       | refine wpG_move' ?_
       | refine wpG_assign' ?_
       | refine wpG_val' ?_
       | refine wpG_no' ?_
      refine wpG_end (fun w7 hx7 => ?_)
      have hx8 := (hx5.trans hx6).trans hx7
      replace y0 := fun w' hx => y0 w' (EOn.trans (EOn.of_ext hx8) hx)
      replace y1 := fun w' hx => y1 w' (EOn.trans (EOn.of_ext hx8) hx)
      have HA7 := Lib.hid (ownsRow_ext HB.out hx8)
      have HK7 := Lib.hid (HKK.out.ext hx8)
      have HX7 := Lib.hid (HY.out.trans hx8)
      clear hx5 hx6 hx7 hx8 HB HY HKK
      go_wp2_with fail
      refine gQ_normal ?_
      go_wp2_with fail
      refine wp_reck (fun _ => True) [0, 1, 2, 3, 4, 5, 6, 7, 9, 10, 11, 12] [8, 13, 14, 15, 16, 17] [true, true] (by kernel_rfl) (by kernel_rfl) (by simp only [List.map_cons, List.map_nil, nth]; rfl) (by simp only [List.map_cons, List.map_nil, nth]; rfl) (fun wq hxq => ?_)
      repeat first
       | refine wpP_move' ?_
       | refine wpP_val' ?_
      refine wpP_end ?_
      replace y0 := fun w' hx => y0 w' (EOn.trans (EOn.of_ext hxq) hx)
      replace y1 := fun w' hx => y1 w' (EOn.trans (EOn.of_ext hxq) hx)
      replace HA7 := Lib.hid (ownsRow_ext HA7.out hxq)
      replace HK7 := Lib.hid (HK7.out.ext hxq)
      replace HX7 := Lib.hid (HX7.out.trans hxq)
      clear hxq
      repeat first
       | refine wpG_move' ?_
       | refine wpG_assign' ?_
       | refine wpG_val' ?_
       | refine wpG_no' ?_
      refine wpG_end (fun w9 hx9 => ?_)
      have hA := ownsRow_ext HA7.out hx9
      have hK9 := HK7.out.ext hx9
      have hX9 := HX7.out.trans hx9
      clear hx9 y0 y1 HA7 HK7 HX7
      have hA1 := own_setI hA (i := j1) (.int .i64 (i : Nat))
      have hA2 := own_setI hA1 (i := j1 + 1) (.int .i64 (y : Nat))
      have hgo : W1.heap.size ≤ go := (hA.lt go rfl).1
      have hX2 := (hX9.setCell (p := ⟨go, j1, none⟩) hgo (.int .i64 (i : Nat))).setCell (p := ⟨go, j1 + 1, none⟩) hgo (.int .i64 (y : Nat))
      have hK2 := (hK9.keep (KeepTy.cell hA j1 (.int .i64 (i : Nat))) (by decide) (by decide)).keep (KeepTy.cell hA1 (j1 + 1) (.int .i64 (y : Nat))) (by decide) (by decide)
      have hsw : ((intsN (P ++ [y] ++ i :: P2)).set j1 (.int .i64 (i : Nat))).set (j1 + 1) (.int .i64 (y : Nat)) = intsN (P ++ i :: (y :: P2)) := by
       have hh := HJ.out
       subst hh
       simp [intsN]
      rw [hsw] at hA2
      have HA2 := Lib.hid hA2
      have HK2 := Lib.hid hK2
      have HX2 := Lib.hid hX2
      obtain ⟨hbl, hfz⟩ := own_blk hA
      obtain ⟨cu9, hb9⟩ := hbl
      have c0 : w9.cell? ⟨go, j1, none⟩ = some (.int .i64 (y : Nat)) := by
       obtain ⟨g3, e3, _, _, hg3⟩ := own_at hA (by omega)
       cases e3
       rw [hg3 j1 (by have := HHJ.out; omega)]
       have hh := HJ.out
       subst hh
       simp [intsN]
      have f0 := frz_blk hb9 j1
      have c1 : (w9.setCell ⟨go, j1, none⟩ (.int .i64 (i : Nat))).cell? ⟨go, j1 + 1, none⟩ = some (.int .i64 (i : Nat)) := by
       obtain ⟨g3, e3, _, _, hg3⟩ := own_at hA1 (by omega)
       cases e3
       rw [hg3 (j1 + 1) (by have := HHJ.out; omega)]
       have hh := HJ.out
       subst hh
       simp [intsN]
      have f1 := frz_blk (set_blk hb9 j1 (.int .i64 (i : Nat))) (j1 + 1)
      clear hA hA1 hA2 hK9 hX9 hX2 hK2 hsw hb9 hfz hgo
      go_wp2_with fail
      refine gQ_normal ?_
      go_wp2_with fail
      go_roundw
      case rel => exact ⟨j1, P, y :: P2, by simp, Lib.hid ⟨HJ.out, by rw [← HP.out.2.1]; simp, fun z hz => by
       rcases List.mem_cons.1 hz with rfl | hz
       ·rw [HCV.out]; exact hdn
       ·exact HP.out.2.2 z hz⟩, HA2, HK2, HX2⟩
      case measure => simp [intOf]
     ·have hdn : decide (0 < cv) = false := decide_eq_false hneg
      repeat first
       | refine wpG_move' ?_
       | refine wpG_assign' ?_
       | refine wpG_val' ?_
       | refine wpG_no' ?_
      refine wpG_end (fun w7 hx7 => ?_)
      have hx8 := (hx5.trans hx6).trans hx7
      have HE5 := Lib.hid (show w7.ownsRow W1.heap.size 3 1 (.slice (some ⟨go, 0, none⟩) (i + 1) cn) (i + 1) (intsN (sortI lt (List.range (i + 1)))) from by
       have hlxy : lt i y = false := by rw [HCV.out]; exact hdn
       rw [List.range_succ, sortI_snoc, ← HP.out.2.1, insB_at HP.out.2.2 (.inr ⟨y, P, rfl, hlxy⟩)]
       exact ownsRow_ext HB.out hx8)
      have HK5 := Lib.hid (HKK.out.ext hx8)
      have HX5 := Lib.hid (HY.out.trans hx8)
      clear hx5 hx6 hx7 hx8 HB HY HKK y0 y1
      go_wp2_with fail
      refine gQ_normal ?_
      go_wp2_with fail
      exact ⟨⟨i + 1, by simp, by omega, HK5, HE5, HX5⟩, by simp only [intOf]; omega⟩
  ·have hI : ¬ ((i : Nat) : Int) < (l.length : Nat) := by omega
   have hd : decide (i < l.length) = false := decide_eq_false hlt
   obtain rfl : i = l.length := by omega
   clear hlt hi
   obtain ⟨po, co, rfl⟩ := own_slice HOO.out
   go_wp2_with fail
   exact ret_one rfl rfl rfl ⟨_, rfl, own_mono HOO.out HX1.out.sz, HX1.out.trans HX.out⟩
end Go.Proofs.YtokeamebcdhnpaaGreatDoor
end

section
namespace Go.Proofs.YtokeamebcdhnpaaGreatDoor
open Go.RowKit Go.Rp Go.Shelf Go.Maps Go.Cl

/-- The least place that does not stand ahead, by halves. -/
def fndC (c : Nat → Int) : Nat → Nat → Nat → Nat
 | 0, lo, _ => lo
 | k + 1, lo, hi => if lo < hi then (if 0 ≤ c ((lo + hi) / 2) then fndC c k lo ((lo + hi) / 2) else fndC c k ((lo + hi) / 2 + 1) hi) else lo
theorem fndC_fuel (c : Nat → Int) : ∀ (k j lo hi : Nat), hi - lo ≤ k → hi - lo ≤ j → fndC c k lo hi = fndC c j lo hi
 | 0, 0, _, _, _, _ => rfl
 | 0, j + 1, lo, hi, h1, _ => by rw [fndC, fndC, if_neg (by omega)]
 | k + 1, 0, lo, hi, _, h2 => by rw [fndC, fndC, if_neg (by omega)]
 | k + 1, j + 1, lo, hi, h1, h2 => by
  rw [fndC, fndC]
  by_cases h : lo < hi
  ·rw [if_pos h, if_pos h]
   split
   ·exact fndC_fuel c k j _ _ (by omega) (by omega)
   ·exact fndC_fuel c k j _ _ (by omega) (by omega)
  ·rw [if_neg h, if_neg h]
noncomputable def fndT (o : Ord) (l : List ByteArray) (s : ByteArray) (i : Nat) : Int := cmpB (keyT o (l.getD i ⟨#[]⟩)) (keyT o s)
noncomputable def fndA (o : Ord) (l : List ByteArray) (s : ByteArray) : Nat := fndC (fndT o l s) l.length 0 l.length
noncomputable def fndB (o : Ord) (l : List ByteArray) (s : ByteArray) : Bool := decide (fndA o l s < l.length) && (fndT o l s (fndA o l s) == 0)
set_option maxRecDepth 100000 in
set_option maxHeartbeats 8000000 in
theorem c_Find (v : Value) (l : List ByteArray) (s : ByteArray) (o : Ord) (w : World) (h : StrRow w v l) (hl : l.length ≤ 100) (hz : ∀ s ∈ l, s.size ≤ 200) (hs : s.size ≤ 200) (hT : TabsC w) :
  Calls Tryz.prog 25 #[ v, .string s, ordV o] w fun e w' => e = .returned (.tuple #[.int .i64 (if 1 ≤ o.level ∧ o.level ≤ 4 then (fndA o l s : Nat) else 0), .bool (decide (1 ≤ o.level ∧ o.level ≤ 4) && fndB o l s)]) ∧ Ext w w' := by
 have HCK := Lib.hid (fun w => c_Check o w)
 have HW := Lib.hid h
 obtain ⟨p, cap, rfl, hp⟩ := h
 have HP := Lib.hid hp
 have hlI : ((l.length : Nat) : Int) ≤ 100 := by omega
 clear hp
 by_cases ho : 1 ≤ o.level ∧ o.level ≤ 4
 ·rw [if_pos ho] at HCK
  have HC := Lib.hid (show ∀ i, i < l.length → ∀ w', Ext w w' → Calls Tryz.prog 18 #[ .string (l.getD i ⟨#[]⟩), .string s, ordV o] w' fun e w'' => e = .returned (.int .i64 (fndT o l s i)) ∧ Ext w' w'' from fun i hi w' hx => c_Compare _ s o w' (hT.ext hx) (by rw [List.getD_eq_getElem?_getD, List.getElem?_eq_getElem hi]; exact hz _ (List.getElem_mem hi)) hs)
  have HFB := Lib.hid (show fndB o l s = (decide (fndA o l s < l.length) && (fndT o l s (fndA o l s) == 0)) from rfl)
  rw [if_pos ho, decide_eq_true ho, Bool.true_and]
  obtain ⟨c, hc⟩ : ∃ c, fndT o l s = c := ⟨_, rfl⟩
  obtain ⟨fa, hfa⟩ : ∃ f, fndA o l s = f := ⟨_, rfl⟩
  obtain ⟨fb, hfb⟩ : ∃ f, fndB o l s = f := ⟨_, rfl⟩
  have HFA := Lib.hid (show fa = fndC c l.length 0 l.length by rw [← hfa, ← hc]; rfl)
  rw [hc] at HC HFB
  rw [hfa] at HFB ⊢
  rw [hfb] at HFB ⊢
  clear hc hfa hfb
  go_enter Tryz.func25, Tryz.ntmps25
  go_wp2_with fail
  have hx0 := (Ext.refl w).alloc (.cells #[.int .i64 o.level, .bool o.shift, .bool o.back, .bool o.great] 24)
  have hb0 := World.alloc_heap_new w (.cells #[.int .i64 o.level, .bool o.shift, .bool o.back, .bool o.great] 24)
  generalize w.alloc (.cells #[.int .i64 o.level, .bool o.shift, .bool o.back, .bool o.great] 24) = W0 at hx0 hb0 ⊢
  generalize w.heap.size = ob at hb0 ⊢
  refine (HCK.out _).mono ?_
  rintro e w1 ⟨rfl, hx1⟩
  have HX1 := Lib.hid (hx0.trans hx1)
  have HB1 := Lib.hid (hx1.blk hb0)
  clear hx0 hx1 hb0
  go_wp2_with fail
  obtain ⟨W1, rfl⟩ : ∃ x, x = w1 := ⟨_, rfl⟩
  go_loopw [8, 9] (fun lv hv W => ∃ lo hi : Nat, lv = .int .i64 (lo : Nat) ∧ hv = .int .i64 (hi : Nat) ∧ hi ≤ l.length ∧ Hid (fndC c (hi - lo) lo hi = fa ∧ lo ≤ hi) ∧ Hid (Ext W1 W)) (fun lv hv _ => (intOf hv - intOf lv).toNat)
  case atStart => exact ⟨0, l.length, rfl, rfl, Nat.le_refl _, Lib.hid ⟨HFA.out.symm, Nat.zero_le _⟩, Lib.hid (Ext.refl _)⟩
  case round =>
   obtain ⟨lo, hi, rfl, rfl, hhl, HD, HX⟩ := hrel
   have hb := HX.out.blk HB1.out
   have o0 : wr.cell? ⟨ob, 0, none⟩ = some (.int .i64 o.level) := (cell_blk hb 0).trans rfl
   have o1 : wr.cell? ⟨ob, 1, none⟩ = some (.bool o.shift) := (cell_blk hb 1).trans rfl
   have o2 : wr.cell? ⟨ob, 2, none⟩ = some (.bool o.back) := (cell_blk hb 2).trans rfl
   have o3 : wr.cell? ⟨ob, 3, none⟩ = some (.bool o.great) := (cell_blk hb 3).trans rfl
   clear hb
   by_cases hlt : lo < hi
   ·have hI : ((lo : Nat) : Int) < (hi : Nat) := by omega
    have hd : decide (lo < hi) = true := decide_eq_true hlt
    obtain ⟨m, hm⟩ : ∃ m, (lo + hi) / 2 = m := ⟨_, rfl⟩
    have hmI : (((lo : Nat) : Int) + (hi : Nat)) / 2 = (m : Nat) := by omega
    have hml : m < l.length := by omega
    have hmJ : ((m : Nat) : Int) < (l.length : Nat) := by omega
    obtain ⟨b, off, rfl, _, hcl⟩ := HP.out (by intro e; subst e; simp at hml)
    have cs := (HX1.out.trans HX.out).cell (hcl m hml)
    have hgd : l[m] = l.getD m ⟨#[]⟩ := by
     rw [List.getD_eq_getElem?_getD, List.getElem?_eq_getElem hml]
     rfl
    rw [hgd] at cs
    have HCM := Lib.hid (HC.out m hml)
    obtain ⟨t, ht⟩ : ∃ t, l.getD m ⟨#[]⟩ = t := ⟨_, rfl⟩
    rw [ht] at cs HCM
    obtain ⟨cv, hcv⟩ : ∃ x, c m = x := ⟨_, rfl⟩
    rw [hcv] at HCM
    have HMM := Lib.hid (show lo ≤ m ∧ m < hi from ⟨by omega, by omega⟩)
    have hst := HD.out.1
    rw [fndC_fuel c _ (hi - lo - 1 + 1) lo hi (Nat.le_refl _) (by omega), fndC, if_pos hlt, hm, hcv] at hst
    have HST := Lib.hid hst
    clear hcl hgd ht hcv hm hlt hst HD
    go_wp2_with fail
    try rw [hmI]
    have s0 : ∀ w', EOn (fun _ => True) wr w' → w'.cell? ⟨b, off + m, none⟩ = some (.string t) := fun w' hx => hx.cell trivial cs
    have q0 : ∀ w', EOn (fun _ => True) wr w' → w'.cell? ⟨ob, 0, none⟩ = some (.int .i64 o.level) := fun w' hx => hx.cell trivial o0
    have q1 : ∀ w', EOn (fun _ => True) wr w' → w'.cell? ⟨ob, 1, none⟩ = some (.bool o.shift) := fun w' hx => hx.cell trivial o1
    have q2 : ∀ w', EOn (fun _ => True) wr w' → w'.cell? ⟨ob, 2, none⟩ = some (.bool o.back) := fun w' hx => hx.cell trivial o2
    have q3 : ∀ w', EOn (fun _ => True) wr w' → w'.cell? ⟨ob, 3, none⟩ = some (.bool o.great) := fun w' hx => hx.cell trivial o3
    clear cs o0 o1 o2 o3
    refine wp_lex (fun _ => True) [true, true, true, true, true, true, false, true] (by kernel_rfl) (by kernel_rfl) ?_
    repeat first
     | refine wpG_move' ?_
     | refine wpG_assign' ?_
     | refine wpG_val' ?_
     | refine wpG_no' ?_
    clear s0 q0 q1 q2 q3
    refine wpG_do (by rfl) (fun w5 hx5 K hK => ?_)
    go_wp2_with fail
    have HX5 := Lib.hid (HX.out.trans hx5)
    refine (HCM.out w5 (HX1.out.trans HX5.out)).mono ?_
    rintro e w6 ⟨rfl, hx6⟩
    refine hK _ _ ⟨EOn.of_ext hx6, ?_⟩
    have HX6 := Lib.hid (HX5.out.trans hx6)
    clear hK hx5 hx6
    by_cases hz0 : 0 ≤ cv
    ·have hzd : decide (0 ≤ cv) = true := decide_eq_true hz0
     have HS2 := Lib.hid (show fndC c (m - lo) lo m = fa by have := HST.out; rw [if_pos hz0] at this; rw [← this]; exact fndC_fuel c _ _ _ _ (Nat.le_refl _) (by have := HMM.out; omega))
     repeat first
      | refine wpG_move' ?_
      | refine wpG_assign' ?_
      | refine wpG_val' ?_
      | refine wpG_no' ?_
     refine wpG_end (fun w7 hx7 => wpList_nil (gQ_normal ?_))
     have HX7 := Lib.hid (HX6.out.trans hx7)
     clear hx7
     go_wp2_with fail
     exact ⟨⟨lo, m, rfl, rfl, by omega, Lib.hid ⟨HS2.out, HMM.out.1⟩, HX7⟩, by have := HMM.out; simp only [intOf]; omega⟩
    ·have hzd : decide (0 ≤ cv) = false := decide_eq_false hz0
     have HS2 := Lib.hid (show fndC c (hi - (m + 1)) (m + 1) hi = fa by have := HST.out; rw [if_neg hz0] at this; rw [← this]; exact fndC_fuel c _ _ _ _ (Nat.le_refl _) (by have := HMM.out; omega))
     repeat first
      | refine wpG_move' ?_
      | refine wpG_assign' ?_
      | refine wpG_val' ?_
      | refine wpG_no' ?_
     refine wpG_end (fun w7 hx7 => wpList_nil (gQ_normal ?_))
     have HX7 := Lib.hid (HX6.out.trans hx7)
     clear hx7
     go_wp2_with fail
     exact ⟨⟨m + 1, hi, by simp, rfl, hhl, Lib.hid ⟨HS2.out, HMM.out.2⟩, HX7⟩, by have := HMM.out; simp only [intOf]; omega⟩
   ·have hI : ¬ ((lo : Nat) : Int) < (hi : Nat) := by omega
    have hd : decide (lo < hi) = false := decide_eq_false hlt
    obtain rfl : lo = fa := by
     have h1 := HD.out.1
     rw [show hi - lo = 0 by omega] at h1
     exact h1
    have HLH := Lib.hid (show lo ≤ l.length from Nat.le_trans HD.out.2 hhl)
    clear hlt HD hhl
    by_cases hll : lo < l.length
    ·have hlJ : ((lo : Nat) : Int) < (l.length : Nat) := by omega
     have hld : decide (lo < l.length) = true := decide_eq_true hll
     obtain ⟨b, off, rfl, _, hcl⟩ := HP.out (by intro e; subst e; simp at hll)
     have cs := (HX1.out.trans HX.out).cell (hcl lo hll)
     have hgd : l[lo] = l.getD lo ⟨#[]⟩ := by
      rw [List.getD_eq_getElem?_getD, List.getElem?_eq_getElem hll]
      rfl
     rw [hgd] at cs
     have HCM := Lib.hid (HC.out lo hll)
     obtain ⟨t, ht⟩ : ∃ t, l.getD lo ⟨#[]⟩ = t := ⟨_, rfl⟩
     rw [ht] at cs HCM
     have hfb := HFB.out
     rw [hld, Bool.true_and] at hfb
     obtain ⟨cv, hcv⟩ : ∃ x, c lo = x := ⟨_, rfl⟩
     rw [hcv] at HCM hfb
     subst hfb
     clear hcl hgd ht hcv HFB
     go_wp2_with fail
     have s0 : ∀ w', EOn (fun _ => True) wr w' → w'.cell? ⟨b, off + lo, none⟩ = some (.string t) := fun w' hx => hx.cell trivial cs
     have q0 : ∀ w', EOn (fun _ => True) wr w' → w'.cell? ⟨ob, 0, none⟩ = some (.int .i64 o.level) := fun w' hx => hx.cell trivial o0
     have q1 : ∀ w', EOn (fun _ => True) wr w' → w'.cell? ⟨ob, 1, none⟩ = some (.bool o.shift) := fun w' hx => hx.cell trivial o1
     have q2 : ∀ w', EOn (fun _ => True) wr w' → w'.cell? ⟨ob, 2, none⟩ = some (.bool o.back) := fun w' hx => hx.cell trivial o2
     have q3 : ∀ w', EOn (fun _ => True) wr w' → w'.cell? ⟨ob, 3, none⟩ = some (.bool o.great) := fun w' hx => hx.cell trivial o3
     clear cs o0 o1 o2 o3
     refine wp_lex (fun _ => True) [true, true, true, true, true, true, true, true, true, true, true, true, false, true, true, true, true] (by kernel_rfl) (by kernel_rfl) ?_
     repeat first
      | refine wpG_move' ?_
      | refine wpG_assign' ?_
      | refine wpG_val' ?_
      | refine wpG_no' ?_
     clear s0 q0 q1 q2 q3
     refine wpG_do (by rfl) (fun w5 hx5 K hK => ?_)
     go_wp2_with fail
     have HX5 := Lib.hid (HX.out.trans hx5)
     refine (HCM.out w5 (HX1.out.trans HX5.out)).mono ?_
     rintro e w6 ⟨rfl, hx6⟩
     refine hK _ _ ⟨EOn.of_ext hx6, ?_⟩
     have HX6 := Lib.hid (HX5.out.trans hx6)
     clear hK hx5 hx6
     repeat first
      | refine wpG_move' ?_
      | refine wpG_assign' ?_
      | refine wpG_val' ?_
      | refine wpG_no' ?_
     refine wpG_end (fun w7 hx7 => wpList_nil (gQ_normal ?_))
     have HX7 := Lib.hid (HX1.out.trans (HX6.out.trans hx7))
     clear hx7
     go_wp2_with fail
     exact ret_two rfl rfl rfl rfl ⟨rfl, HX7.out⟩
    ·have hlJ : ¬ ((lo : Nat) : Int) < (l.length : Nat) := by omega
     have hld : decide (lo < l.length) = false := decide_eq_false hll
     have hfb := HFB.out
     rw [hld, Bool.false_and] at hfb
     subst hfb
     clear HFB
     go_wp2_with fail
     refine wp_lex (fun _ => True) [true, true, true, true, true, true, true, true, true, true, true, true, true, true, true, true, true] (by kernel_rfl) (by kernel_rfl) ?_
     repeat first
      | refine wpG_move' ?_
      | refine wpG_assign' ?_
      | refine wpG_val' ?_
      | refine wpG_no' ?_
     refine wpG_end (fun w7 hx7 => wpList_nil (gQ_normal ?_))
     have HX7 := Lib.hid (HX1.out.trans (HX.out.trans hx7))
     clear hx7
     go_wp2_with fail
     exact ret_two rfl rfl rfl rfl ⟨rfl, HX7.out⟩
 ·rw [if_neg ho] at HCK
  rw [if_neg ho, decide_eq_false ho, Bool.false_and]
  go_enter Tryz.func25, Tryz.ntmps25
  go_wp2_with fail
  have HX0 := Lib.hid ((Ext.refl w).alloc (.cells #[.int .i64 o.level, .bool o.shift, .bool o.back, .bool o.great] 24))
  refine (HCK.out _).mono ?_
  rintro e w1 ⟨rfl, hx1⟩
  have HX1 := Lib.hid (HX0.out.trans hx1)
  clear hx1
  go_wp2_with fail
  exact ret_two rfl rfl rfl rfl ⟨rfl, HX1.out⟩
set_option maxRecDepth 100000 in
set_option maxHeartbeats 8000000 in
theorem c_bkFind (kb : Nat) (v : Value) (l : List ByteArray) (s : ByteArray) (o : Ord) (w : World) (h : StrRow w v l) (hl : l.length ≤ 100) (hz : ∀ s ∈ l, s.size ≤ 200) (hs : s.size ≤ 200) (hk : BkAt w kb) :
  Calls Tryz.prog 26 #[.pointer (some ⟨kb, 0, none⟩), v, .string s, ordV o] w fun e w' => e = .returned (.tuple #[.int .i64 (if 1 ≤ o.level ∧ o.level ≤ 4 then (fndA o l s : Nat) else 0), .bool (decide (1 ≤ o.level ∧ o.level ≤ 4) && fndB o l s)]) ∧ Ext w w' := by
 have HCK := Lib.hid (fun w => c_RCheck o w)
 have HW := Lib.hid h
 obtain ⟨p, cap, rfl, hp⟩ := h
 have HP := Lib.hid hp
 have hlI : ((l.length : Nat) : Int) ≤ 100 := by omega
 clear hp
 by_cases ho : 1 ≤ o.level ∧ o.level ≤ 4
 ·rw [if_pos ho] at HCK
  have HC := Lib.hid (show ∀ i, i < l.length → ∀ w', Ext w w' → Calls Tryz.prog 19 #[.pointer (some ⟨kb, 0, none⟩), .string (l.getD i ⟨#[]⟩), .string s, ordV o] w' fun e w'' => e = .returned (.int .i64 (fndT o l s i)) ∧ Ext w' w'' from fun i hi w' hx => c_bkCompare kb _ s o w' (hk.ext hx) (by rw [List.getD_eq_getElem?_getD, List.getElem?_eq_getElem hi]; exact hz _ (List.getElem_mem hi)) hs)
  have HFB := Lib.hid (show fndB o l s = (decide (fndA o l s < l.length) && (fndT o l s (fndA o l s) == 0)) from rfl)
  rw [if_pos ho, decide_eq_true ho, Bool.true_and]
  obtain ⟨c, hc⟩ : ∃ c, fndT o l s = c := ⟨_, rfl⟩
  obtain ⟨fa, hfa⟩ : ∃ f, fndA o l s = f := ⟨_, rfl⟩
  obtain ⟨fb, hfb⟩ : ∃ f, fndB o l s = f := ⟨_, rfl⟩
  have HFA := Lib.hid (show fa = fndC c l.length 0 l.length by rw [← hfa, ← hc]; rfl)
  rw [hc] at HC HFB
  rw [hfa] at HFB ⊢
  rw [hfb] at HFB ⊢
  clear hc hfa hfb
  go_enter Tryz.func26, Tryz.ntmps26
  go_wp2_with fail
  have hx0 := (Ext.refl w).alloc (.cells #[.int .i64 o.level, .bool o.shift, .bool o.back, .bool o.great] 24)
  have hb0 := World.alloc_heap_new w (.cells #[.int .i64 o.level, .bool o.shift, .bool o.back, .bool o.great] 24)
  generalize w.alloc (.cells #[.int .i64 o.level, .bool o.shift, .bool o.back, .bool o.great] 24) = W0 at hx0 hb0 ⊢
  generalize w.heap.size = ob at hb0 ⊢
  refine (HCK.out _).mono ?_
  rintro e w1 ⟨rfl, hx1⟩
  have HX1 := Lib.hid (hx0.trans hx1)
  have HB1 := Lib.hid (hx1.blk hb0)
  clear hx0 hx1 hb0
  go_wp2_with fail
  obtain ⟨W1, rfl⟩ : ∃ x, x = w1 := ⟨_, rfl⟩
  go_loopw [10, 11] (fun lv hv W => ∃ lo hi : Nat, lv = .int .i64 (lo : Nat) ∧ hv = .int .i64 (hi : Nat) ∧ hi ≤ l.length ∧ Hid (fndC c (hi - lo) lo hi = fa ∧ lo ≤ hi) ∧ Hid (Ext W1 W)) (fun lv hv _ => (intOf hv - intOf lv).toNat)
  case atStart => exact ⟨0, l.length, rfl, rfl, Nat.le_refl _, Lib.hid ⟨HFA.out.symm, Nat.zero_le _⟩, Lib.hid (Ext.refl _)⟩
  case round =>
   obtain ⟨lo, hi, rfl, rfl, hhl, HD, HX⟩ := hrel
   have hb := HX.out.blk HB1.out
   have o0 : wr.cell? ⟨ob, 0, none⟩ = some (.int .i64 o.level) := (cell_blk hb 0).trans rfl
   have o1 : wr.cell? ⟨ob, 1, none⟩ = some (.bool o.shift) := (cell_blk hb 1).trans rfl
   have o2 : wr.cell? ⟨ob, 2, none⟩ = some (.bool o.back) := (cell_blk hb 2).trans rfl
   have o3 : wr.cell? ⟨ob, 3, none⟩ = some (.bool o.great) := (cell_blk hb 3).trans rfl
   clear hb
   by_cases hlt : lo < hi
   ·have hI : ((lo : Nat) : Int) < (hi : Nat) := by omega
    have hd : decide (lo < hi) = true := decide_eq_true hlt
    obtain ⟨m, hm⟩ : ∃ m, (lo + hi) / 2 = m := ⟨_, rfl⟩
    have hmI : (((lo : Nat) : Int) + (hi : Nat)) / 2 = (m : Nat) := by omega
    have hml : m < l.length := by omega
    have hmJ : ((m : Nat) : Int) < (l.length : Nat) := by omega
    obtain ⟨b, off, rfl, _, hcl⟩ := HP.out (by intro e; subst e; simp at hml)
    have cs := (HX1.out.trans HX.out).cell (hcl m hml)
    have hgd : l[m] = l.getD m ⟨#[]⟩ := by
     rw [List.getD_eq_getElem?_getD, List.getElem?_eq_getElem hml]
     rfl
    rw [hgd] at cs
    have HCM := Lib.hid (HC.out m hml)
    obtain ⟨t, ht⟩ : ∃ t, l.getD m ⟨#[]⟩ = t := ⟨_, rfl⟩
    rw [ht] at cs HCM
    obtain ⟨cv, hcv⟩ : ∃ x, c m = x := ⟨_, rfl⟩
    rw [hcv] at HCM
    have HMM := Lib.hid (show lo ≤ m ∧ m < hi from ⟨by omega, by omega⟩)
    have hst := HD.out.1
    rw [fndC_fuel c _ (hi - lo - 1 + 1) lo hi (Nat.le_refl _) (by omega), fndC, if_pos hlt, hm, hcv] at hst
    have HST := Lib.hid hst
    clear hcl hgd ht hcv hm hlt hst HD
    go_wp2_with fail
    try rw [hmI]
    have s0 : ∀ w', EOn (fun _ => True) wr w' → w'.cell? ⟨b, off + m, none⟩ = some (.string t) := fun w' hx => hx.cell trivial cs
    have q0 : ∀ w', EOn (fun _ => True) wr w' → w'.cell? ⟨ob, 0, none⟩ = some (.int .i64 o.level) := fun w' hx => hx.cell trivial o0
    have q1 : ∀ w', EOn (fun _ => True) wr w' → w'.cell? ⟨ob, 1, none⟩ = some (.bool o.shift) := fun w' hx => hx.cell trivial o1
    have q2 : ∀ w', EOn (fun _ => True) wr w' → w'.cell? ⟨ob, 2, none⟩ = some (.bool o.back) := fun w' hx => hx.cell trivial o2
    have q3 : ∀ w', EOn (fun _ => True) wr w' → w'.cell? ⟨ob, 3, none⟩ = some (.bool o.great) := fun w' hx => hx.cell trivial o3
    clear cs o0 o1 o2 o3
    refine wp_lex (fun _ => True) [true, true, true, true, true, true, true, false, true] (by kernel_rfl) (by kernel_rfl) ?_
    repeat first
     | refine wpG_move' ?_
     | refine wpG_assign' ?_
     | refine wpG_val' ?_
     | refine wpG_no' ?_
    clear s0 q0 q1 q2 q3
    refine wpG_do (by rfl) (fun w5 hx5 K hK => ?_)
    go_wp2_with fail
    have HX5 := Lib.hid (HX.out.trans hx5)
    refine (HCM.out w5 (HX1.out.trans HX5.out)).mono ?_
    rintro e w6 ⟨rfl, hx6⟩
    refine hK _ _ ⟨EOn.of_ext hx6, ?_⟩
    have HX6 := Lib.hid (HX5.out.trans hx6)
    clear hK hx5 hx6
    by_cases hz0 : 0 ≤ cv
    ·have hzd : decide (0 ≤ cv) = true := decide_eq_true hz0
     have HS2 := Lib.hid (show fndC c (m - lo) lo m = fa by have := HST.out; rw [if_pos hz0] at this; rw [← this]; exact fndC_fuel c _ _ _ _ (Nat.le_refl _) (by have := HMM.out; omega))
     repeat first
      | refine wpG_move' ?_
      | refine wpG_assign' ?_
      | refine wpG_val' ?_
      | refine wpG_no' ?_
     refine wpG_end (fun w7 hx7 => wpList_nil (gQ_normal ?_))
     have HX7 := Lib.hid (HX6.out.trans hx7)
     clear hx7
     go_wp2_with fail
     exact ⟨⟨lo, m, rfl, rfl, by omega, Lib.hid ⟨HS2.out, HMM.out.1⟩, HX7⟩, by have := HMM.out; simp only [intOf]; omega⟩
    ·have hzd : decide (0 ≤ cv) = false := decide_eq_false hz0
     have HS2 := Lib.hid (show fndC c (hi - (m + 1)) (m + 1) hi = fa by have := HST.out; rw [if_neg hz0] at this; rw [← this]; exact fndC_fuel c _ _ _ _ (Nat.le_refl _) (by have := HMM.out; omega))
     repeat first
      | refine wpG_move' ?_
      | refine wpG_assign' ?_
      | refine wpG_val' ?_
      | refine wpG_no' ?_
     refine wpG_end (fun w7 hx7 => wpList_nil (gQ_normal ?_))
     have HX7 := Lib.hid (HX6.out.trans hx7)
     clear hx7
     go_wp2_with fail
     exact ⟨⟨m + 1, hi, by simp, rfl, hhl, Lib.hid ⟨HS2.out, HMM.out.2⟩, HX7⟩, by have := HMM.out; simp only [intOf]; omega⟩
   ·have hI : ¬ ((lo : Nat) : Int) < (hi : Nat) := by omega
    have hd : decide (lo < hi) = false := decide_eq_false hlt
    obtain rfl : lo = fa := by
     have h1 := HD.out.1
     rw [show hi - lo = 0 by omega] at h1
     exact h1
    have HLH := Lib.hid (show lo ≤ l.length from Nat.le_trans HD.out.2 hhl)
    clear hlt HD hhl
    by_cases hll : lo < l.length
    ·have hlJ : ((lo : Nat) : Int) < (l.length : Nat) := by omega
     have hld : decide (lo < l.length) = true := decide_eq_true hll
     obtain ⟨b, off, rfl, _, hcl⟩ := HP.out (by intro e; subst e; simp at hll)
     have cs := (HX1.out.trans HX.out).cell (hcl lo hll)
     have hgd : l[lo] = l.getD lo ⟨#[]⟩ := by
      rw [List.getD_eq_getElem?_getD, List.getElem?_eq_getElem hll]
      rfl
     rw [hgd] at cs
     have HCM := Lib.hid (HC.out lo hll)
     obtain ⟨t, ht⟩ : ∃ t, l.getD lo ⟨#[]⟩ = t := ⟨_, rfl⟩
     rw [ht] at cs HCM
     have hfb := HFB.out
     rw [hld, Bool.true_and] at hfb
     obtain ⟨cv, hcv⟩ : ∃ x, c lo = x := ⟨_, rfl⟩
     rw [hcv] at HCM hfb
     subst hfb
     clear hcl hgd ht hcv HFB
     go_wp2_with fail
     have s0 : ∀ w', EOn (fun _ => True) wr w' → w'.cell? ⟨b, off + lo, none⟩ = some (.string t) := fun w' hx => hx.cell trivial cs
     have q0 : ∀ w', EOn (fun _ => True) wr w' → w'.cell? ⟨ob, 0, none⟩ = some (.int .i64 o.level) := fun w' hx => hx.cell trivial o0
     have q1 : ∀ w', EOn (fun _ => True) wr w' → w'.cell? ⟨ob, 1, none⟩ = some (.bool o.shift) := fun w' hx => hx.cell trivial o1
     have q2 : ∀ w', EOn (fun _ => True) wr w' → w'.cell? ⟨ob, 2, none⟩ = some (.bool o.back) := fun w' hx => hx.cell trivial o2
     have q3 : ∀ w', EOn (fun _ => True) wr w' → w'.cell? ⟨ob, 3, none⟩ = some (.bool o.great) := fun w' hx => hx.cell trivial o3
     clear cs o0 o1 o2 o3
     refine wp_lex (fun _ => True) [true, true, true, true, true, true, true, true, true, true, true, true, true, false, true, true, true, true] (by kernel_rfl) (by kernel_rfl) ?_
     repeat first
      | refine wpG_move' ?_
      | refine wpG_assign' ?_
      | refine wpG_val' ?_
      | refine wpG_no' ?_
     clear s0 q0 q1 q2 q3
     refine wpG_do (by rfl) (fun w5 hx5 K hK => ?_)
     go_wp2_with fail
     have HX5 := Lib.hid (HX.out.trans hx5)
     refine (HCM.out w5 (HX1.out.trans HX5.out)).mono ?_
     rintro e w6 ⟨rfl, hx6⟩
     refine hK _ _ ⟨EOn.of_ext hx6, ?_⟩
     have HX6 := Lib.hid (HX5.out.trans hx6)
     clear hK hx5 hx6
     repeat first
      | refine wpG_move' ?_
      | refine wpG_assign' ?_
      | refine wpG_val' ?_
      | refine wpG_no' ?_
     refine wpG_end (fun w7 hx7 => wpList_nil (gQ_normal ?_))
     have HX7 := Lib.hid (HX1.out.trans (HX6.out.trans hx7))
     clear hx7
     go_wp2_with fail
     exact ret_two rfl rfl rfl rfl ⟨rfl, HX7.out⟩
    ·have hlJ : ¬ ((lo : Nat) : Int) < (l.length : Nat) := by omega
     have hld : decide (lo < l.length) = false := decide_eq_false hll
     have hfb := HFB.out
     rw [hld, Bool.false_and] at hfb
     subst hfb
     clear HFB
     go_wp2_with fail
     refine wp_lex (fun _ => True) [true, true, true, true, true, true, true, true, true, true, true, true, true, true, true, true, true, true] (by kernel_rfl) (by kernel_rfl) ?_
     repeat first
      | refine wpG_move' ?_
      | refine wpG_assign' ?_
      | refine wpG_val' ?_
      | refine wpG_no' ?_
     refine wpG_end (fun w7 hx7 => wpList_nil (gQ_normal ?_))
     have HX7 := Lib.hid (HX1.out.trans (HX.out.trans hx7))
     clear hx7
     go_wp2_with fail
     exact ret_two rfl rfl rfl rfl ⟨rfl, HX7.out⟩
 ·rw [if_neg ho] at HCK
  rw [if_neg ho, decide_eq_false ho, Bool.false_and]
  go_enter Tryz.func26, Tryz.ntmps26
  go_wp2_with fail
  have HX0 := Lib.hid ((Ext.refl w).alloc (.cells #[.int .i64 o.level, .bool o.shift, .bool o.back, .bool o.great] 24))
  refine (HCK.out _).mono ?_
  rintro e w1 ⟨rfl, hx1⟩
  have HX1 := Lib.hid (HX0.out.trans hx1)
  clear hx1
  go_wp2_with fail
  exact ret_two rfl rfl rfl rfl ⟨rfl, HX1.out⟩
end Go.Proofs.YtokeamebcdhnpaaGreatDoor
end

section
namespace Go.Proofs.YtokeamebcdhnpaaGreatDoor
open Go.RowKit Go.Rp Go.Shelf Go.Maps Go.Cl

/-- A number joins the last group, or begins one. -/
def grpS (e : Nat → Nat → Bool) (G : List (List Nat)) (i : Nat) : List (List Nat) :=
 match G.getLast? with
 | some g => if e (g.headD 0) i = true then G.dropLast ++ [g ++ [i]] else G ++ [[i]]
 | none => [[i]]
def grpL (e : Nat → Nat → Bool) (p : List Nat) : List (List Nat) := p.foldl (grpS e) []
theorem grpL_snoc (e : Nat → Nat → Bool) (p : List Nat) (i : Nat) : grpL e (p ++ [i]) = grpS e (grpL e p) i := by simp [grpL, List.foldl_append]
theorem grpS_new (e : Nat → Nat → Bool) (i : Nat) : grpS e [] i = [[i]] := rfl
theorem grpS_more (e : Nat → Nat → Bool) (H : List (List Nat)) (g : List Nat) (i : Nat) : grpS e (H ++ [g]) i = if e (g.headD 0) i = true then H ++ [g ++ [i]] else H ++ [g] ++ [[i]] := by
 unfold grpS
 rw [List.getLast?_concat]
 simp only [List.dropLast_concat]
theorem grpL_ne (e : Nat → Nat → Bool) : ∀ p, (∀ g ∈ grpL e p, g ≠ []) := by
 have key : ∀ (p : List Nat) (G : List (List Nat)), (∀ g ∈ G, g ≠ []) → ∀ g ∈ p.foldl (grpS e) G, g ≠ [] := by
  intro p
  induction p with
  | nil => intro G h; exact h
  | cons i p ih =>
   intro G h
   rw [List.foldl_cons]
   refine ih _ fun g hg => ?_
   rcases List.eq_nil_or_concat G with rfl | ⟨H, x, rfl⟩
   ·rw [grpS_new] at hg
    obtain rfl := List.mem_singleton.1 hg
    simp
   ·rw [List.concat_eq_append, grpS_more] at hg
    rw [List.concat_eq_append] at h
    split at hg
    ·rcases List.mem_append.1 hg with hg | hg
     ·exact h g (List.mem_append_left _ hg)
     ·obtain rfl := List.mem_singleton.1 hg
      simp
    ·rcases List.mem_append.1 hg with hg | hg
     ·exact h g hg
     ·obtain rfl := List.mem_singleton.1 hg
      simp
 exact fun p => key p [] (fun g hg => by cases hg)
theorem grpL_mem (e : Nat → Nat → Bool) : ∀ (p : List Nat), ∀ g ∈ grpL e p, ∀ x ∈ g, x ∈ p := by
 have key : ∀ (p : List Nat) (G : List (List Nat)) (q : List Nat), (∀ g ∈ G, ∀ x ∈ g, x ∈ q) → ∀ g ∈ p.foldl (grpS e) G, ∀ x ∈ g, x ∈ q ∨ x ∈ p := by
  intro p
  induction p with
  | nil => intro G q h g hg x hx; exact .inl (h g hg x hx)
  | cons i p ih =>
   intro G q h g hg x hx
   rw [List.foldl_cons] at hg
   have := ih (grpS e G i) (q ++ [i]) (fun g' hg' x' hx' => by
    rcases List.eq_nil_or_concat G with rfl | ⟨H, y, rfl⟩
    ·rw [grpS_new] at hg'
     obtain rfl := List.mem_singleton.1 hg'
     exact List.mem_append_right _ hx'
    ·rw [List.concat_eq_append, grpS_more] at hg'
     rw [List.concat_eq_append] at h
     split at hg'
     ·rcases List.mem_append.1 hg' with h1 | h1
      ·exact List.mem_append_left _ (h g' (List.mem_append_left _ h1) x' hx')
      ·obtain rfl := List.mem_singleton.1 h1
       rcases List.mem_append.1 hx' with h2 | h2
       ·exact List.mem_append_left _ (h y (List.mem_append_right _ (List.mem_singleton.2 rfl)) x' h2)
       ·exact List.mem_append_right _ h2
     ·rcases List.mem_append.1 hg' with h1 | h1
      ·exact List.mem_append_left _ (h g' h1 x' hx')
      ·obtain rfl := List.mem_singleton.1 h1
       exact List.mem_append_right _ hx') g hg x hx
   rcases this with h1 | h1
   ·rcases List.mem_append.1 h1 with h2 | h2
    ·exact .inl h2
    ·obtain rfl := List.mem_singleton.1 h2
     exact .inr (List.mem_cons_self ..)
   ·exact .inr (List.mem_cons_of_mem _ h1)
 exact fun p g hg x hx => by
  rcases key p [] [] (fun g hg => by cases hg) g hg x hx with h | h
  ·cases h
  ·exact h
theorem grpL_len (e : Nat → Nat → Bool) (p : List Nat) : ∀ g ∈ grpL e p, g.length ≤ p.length := by
 have key : ∀ (p : List Nat) (G : List (List Nat)) (n : Nat), (∀ g ∈ G, g.length ≤ n) → ∀ g ∈ p.foldl (grpS e) G, g.length ≤ n + p.length := by
  intro p
  induction p with
  | nil => intro G n h g hg; exact h g hg
  | cons i p ih =>
   intro G n h g hg
   rw [List.foldl_cons] at hg
   have := ih (grpS e G i) (n + 1) (fun g' hg' => by
    rcases List.eq_nil_or_concat G with rfl | ⟨H, y, rfl⟩
    ·rw [grpS_new] at hg'
     obtain rfl := List.mem_singleton.1 hg'
     simp
    ·rw [List.concat_eq_append, grpS_more] at hg'
     rw [List.concat_eq_append] at h
     split at hg'
     ·rcases List.mem_append.1 hg' with h1 | h1
      ·exact Nat.le_succ_of_le (h g' (List.mem_append_left _ h1))
      ·obtain rfl := List.mem_singleton.1 h1
       rw [List.length_append]
       exact Nat.add_le_add_right (h y (List.mem_append_right _ (List.mem_singleton.2 rfl))) 1
     ·rcases List.mem_append.1 hg' with h1 | h1
      ·exact Nat.le_succ_of_le (h g' h1)
      ·obtain rfl := List.mem_singleton.1 h1
       simp) g hg
   rw [List.length_cons]
   omega
 intro g hg
 have := key p [] 0 (fun g hg => by cases hg) g hg
 omega
theorem infoInts : (Tryz.prog.info? 42).map (fun i => (i.zero, i.size, i.bytes)) = some (some (.slice none 0 0), 1, 24) := by kernel_rfl
/-- Groups in memory: each a row of its own. -/
structure GRaw (B : Nat) (W : World) (gv : Value) (vs : List Value) (G : List (List Nat)) : Prop where
 own : W.ownsRow B 42 1 gv G.length vs
 row : ∀ (j : Nat) u g, vs[j]? = some u → G[j]? = some g → W.ownsRow B 3 1 u g.length (intsN g)
 ap : ∀ (j k : Nat) u v, j ≠ k → vs[j]? = some u → vs[k]? = some v → u.ownBlock = none ∨ u.ownBlock ≠ v.ownBlock
theorem GRaw.nil (B : Nat) (W : World) : GRaw B W (.slice none 0 0) [] [] := ⟨World.ownsRow_nil _ _ _ _, fun j u g h => by simp at h, fun j k u v _ h => by simp at h⟩
theorem GRaw.ext {B : Nat} {W W' : World} {gv : Value} {vs : List Value} {G : List (List Nat)} (h : GRaw B W gv vs G) (hx : Ext W W') : GRaw B W' gv vs G :=
 ⟨ownsRow_ext h.own hx, fun j u g a b => ownsRow_ext (h.row j u g a b) hx, h.ap⟩
/-- A group is begun. -/
theorem GRaw.push {B : Nat} {W w5 : World} {gv gv' : Value} {vs : List Value} {G : List (List Nat)} {u : Value} {g : List Nat} (h : GRaw B W gv vs G) (hu : W.ownsRow B 3 1 u g.length (intsN g)) (hf : ∀ (j : Nat) v, vs[j]? = some v → ∀ b, v.ownBlock = some b → u.ownBlock ≠ some b)
  (g1 : w5.ownsRow B 42 1 gv' (G.length + 1) (vs ++ [u])) (g2 : W.grownBy w5 gv.ownBlock) : GRaw B w5 gv' (vs ++ [u]) (G ++ [g]) := by
 have hk : KeepTy 42 W w5 := KeepTy.of_grown h.own g2
 have hl := h.own.1
 refine ⟨by rw [List.length_append]; exact g1, fun j v g' a b => ?_, fun j k v v' hne a b => ?_⟩
 ·by_cases hj : j < G.length
  ·rw [List.getElem?_append_left (by omega)] at a
   rw [List.getElem?_append_left hj] at b
   exact own_keepT (h.row j v g' a b) hk (by decide)
  ·have hje : j = G.length := by
    have := (List.getElem?_eq_some_iff.1 b).1
    simp at this
    omega
   subst hje
   rw [List.getElem?_append_right (by omega), show G.length - vs.length = 0 by omega] at a
   rw [List.getElem?_append_right (Nat.le_refl _), Nat.sub_self] at b
   obtain rfl := Option.some.inj a
   obtain rfl := Option.some.inj b
   exact own_keepT hu hk (by decide)
 ·have hcase : ∀ (j : Nat) v, (vs ++ [u])[j]? = some v → (j < vs.length ∧ vs[j]? = some v) ∨ (j = vs.length ∧ v = u) := fun j v a => by
   by_cases hj : j < vs.length
   ·rw [List.getElem?_append_left hj] at a
    exact .inl ⟨hj, a⟩
   ·have hje : j = vs.length := by
     have := (List.getElem?_eq_some_iff.1 a).1
     simp at this
     omega
    subst hje
    rw [List.getElem?_append_right (Nat.le_refl _), Nat.sub_self] at a
    exact .inr ⟨rfl, (Option.some.inj a).symm⟩
  rcases hcase j v a with ⟨h1, h2⟩ | ⟨h1, rfl⟩
  ·rcases hcase k v' b with ⟨h3, h4⟩ | ⟨h3, rfl⟩
   ·exact h.ap j k v v' hne h2 h4
   ·cases hb : v.ownBlock with
    | none => exact .inl rfl
    | some x => exact .inr (fun e => hf j v h2 x hb e.symm)
  ·rcases hcase k v' b with ⟨h3, h4⟩ | ⟨h3, rfl⟩
   ·cases hb : v'.ownBlock with
    | none =>
     cases hb2 : v.ownBlock with
     | none => exact .inl rfl
     | some x => exact .inr (fun e => by cases e)
    | some x => exact .inr (hf k v' h4 x hb)
   ·exact absurd (h1.trans h3.symm) hne
theorem own_setL {W : World} {B g n c i : Nat} {e : TypeId} {xs : List Value} (h : W.ownsRow B e 1 (.slice (some ⟨g, 0, none⟩) n c) n xs) (u : Value) : (W.setCell ⟨g, i, none⟩ u).ownsRow B e 1 (.slice (some ⟨g, 0, none⟩) n c) n (xs.set i u) := by
 obtain ⟨h1, h2⟩ := h
 refine ⟨by rw [List.length_set]; exact h1, ?_⟩
 rcases h2 with ⟨e, _⟩ | ⟨g', cap, cur, e, hb, hg, hc, hm, hs, ht⟩
 ·cases e
 ·cases e
  refine .inr ⟨g, c, cur.setIfInBounds i u, rfl, hb, set_blk hg i u, hc, hm, by simpa using hs, ?_⟩
  rw [Array.toList_setIfInBounds, List.take_set, ht]
/-- The last group grows. -/
theorem GRaw.more {B : Nat} {W w5 w6 : World} {gb c : Nat} {vs : List Value} {G : List (List Nat)} {u u' : Value} {g : List Nat} {i : Nat} (h : GRaw B W (.slice (some ⟨gb, 0, none⟩) (G.length + 1) c) (vs ++ [u]) (G ++ [g])) (hx : Ext w5 w6)
  (g1 : w5.ownsRow B 3 1 u' (g.length + 1) (intsN g ++ [.int .i64 (i : Nat)])) (g2 : W.grownBy w5 u.ownBlock) (g4 : u'.ownBlock = u.ownBlock ∨ u'.ownBlock = some W.heap.size) :
  GRaw B (w6.setCell ⟨gb, G.length, none⟩ u') (.slice (some ⟨gb, 0, none⟩) (G.length + 1) c) (vs ++ [u']) (G ++ [g ++ [i]]) := by
 have hl : vs.length = G.length := by
  have := h.own.1
  simp at this
  omega
 have hu : W.ownsRow B 3 1 u g.length (intsN g) := h.row G.length u g (by rw [List.getElem?_append_right (by omega), hl, Nat.sub_self]; rfl) (by rw [List.getElem?_append_right (Nat.le_refl _), Nat.sub_self]; rfl)
 have ho5 := h.own.kept g2 (own_ne h.own hu (by decide))
 have ho6 := ownsRow_ext ho5 hx
 rw [List.length_append] at ho6
 have hset := own_setL (i := G.length) ho6 u'
 have hk : KeepTy 42 w6 (w6.setCell ⟨gb, G.length, none⟩ u') := KeepTy.cell ho6 _ _
 have hvs : (vs ++ [u]).set G.length u' = vs ++ [u'] := by
  rw [← hl, List.set_append_right _ _ (Nat.le_refl _), Nat.sub_self]
  rfl
 rw [hvs] at hset
 have hold : ∀ (j : Nat) v, vs[j]? = some v → ∀ g', (G ++ [g])[j]? = some g' → W.ownsRow B 3 1 v g'.length (intsN g') ∧ (v.ownBlock = none ∨ v.ownBlock ≠ u.ownBlock) := fun j v a g' b => by
  have hj := (List.getElem?_eq_some_iff.1 a).1
  have a2 : (vs ++ [u])[j]? = some v := by rw [List.getElem?_append_left hj]; exact a
  exact ⟨h.row j v g' a2 b, h.ap j G.length v u (by omega) a2 (by rw [List.getElem?_append_right (by omega), hl, Nat.sub_self]; rfl)⟩
 have hcase : ∀ (j : Nat) v, (vs ++ [u'])[j]? = some v → (j < vs.length ∧ vs[j]? = some v) ∨ (j = vs.length ∧ v = u') := fun j v a => by
  by_cases hj : j < vs.length
  ·rw [List.getElem?_append_left hj] at a
   exact .inl ⟨hj, a⟩
  ·have hje : j = vs.length := by
    have := (List.getElem?_eq_some_iff.1 a).1
    simp at this
    omega
   subst hje
   rw [List.getElem?_append_right (Nat.le_refl _), Nat.sub_self] at a
   exact .inr ⟨rfl, (Option.some.inj a).symm⟩
 have hsome : ∀ (j : Nat), j < vs.length → ∃ g', (G ++ [g])[j]? = some g' := fun j hj => ⟨(G ++ [g])[j]'(by simp; omega), List.getElem?_eq_getElem _⟩
 have hne' : ∀ (j : Nat) v, vs[j]? = some v → v.ownBlock = none ∨ v.ownBlock ≠ u'.ownBlock := fun j v a => by
  obtain ⟨g', hg'⟩ := hsome j (List.getElem?_eq_some_iff.1 a).1
  obtain ⟨r1, r2⟩ := hold j v a g' hg'
  rcases r2 with r2 | r2
  ·exact .inl r2
  ·rcases g4 with g4 | g4
   ·rw [g4]; exact .inr r2
   ·rw [g4]
    refine .inr fun e => ?_
    have := (r1.lt _ e).2
    omega
 refine ⟨?_, fun j v g' a b => ?_, fun j k v v' hne a b => ?_⟩
 ·rw [List.length_append]
  exact hset
 ·rcases hcase j v a with ⟨h1, h2⟩ | ⟨h1, rfl⟩
  ·have b2 : (G ++ [g])[j]? = some g' := by
    rw [List.getElem?_append_left (by omega)] at b ⊢
    exact b
   obtain ⟨r1, r2⟩ := hold j v h2 g' b2
   exact own_keepT (ownsRow_ext (r1.kept g2 r2) hx) hk (by decide)
  ·subst h1
   rw [List.getElem?_append_right (by omega), show vs.length - G.length = 0 by omega] at b
   obtain rfl := Option.some.inj b
   have := own_keepT (ownsRow_ext g1 hx) hk (by decide)
   rw [List.length_append, intsN, List.map_append]
   exact this
 ·rcases hcase j v a with ⟨h1, h2⟩ | ⟨h1, rfl⟩
  ·rcases hcase k v' b with ⟨h3, h4⟩ | ⟨h3, rfl⟩
   ·exact h.ap j k v v' hne (by rw [List.getElem?_append_left h1]; exact h2) (by rw [List.getElem?_append_left h3]; exact h4)
   ·exact hne' j v h2
  ·rcases hcase k v' b with ⟨h3, h4⟩ | ⟨h3, rfl⟩
   ·rcases hne' k v' h4 with e | e
    ·cases hb2 : v.ownBlock with
     | none => exact .inl rfl
     | some x => exact .inr (fun e2 => by rw [e] at e2; cases e2)
    ·exact .inr (fun e2 => e e2.symm)
   ·exact absurd (h1.trans h3.symm) hne
theorem GRaw.at {B : Nat} {W : World} {gv : Value} {vs : List Value} {G : List (List Nat)} (h : GRaw B W gv vs G) {j : Nat} (hj : j < G.length) : ∃ gb c u, gv = .slice (some ⟨gb, 0, none⟩) G.length c ∧ B ≤ gb ∧ W.cell? ⟨gb, j, none⟩ = some u ∧ vs[j]? = some u ∧ W.ownsRow B 3 1 u G[j].length (intsN G[j]) := by
 obtain ⟨p, c, rfl⟩ := own_slice h.own
 obtain ⟨gb, rfl, hb, _, hc⟩ := own_at h.own (by omega)
 have hl := h.own.1
 have hjv : j < vs.length := by omega
 exact ⟨gb, c, vs[j], rfl, hb, (hc j (by omega)).trans (List.getElem?_eq_getElem hjv), List.getElem?_eq_getElem hjv, h.row j _ _ (List.getElem?_eq_getElem hjv) (List.getElem?_eq_getElem hj)⟩
end Go.Proofs.YtokeamebcdhnpaaGreatDoor
end

section
namespace Go.Proofs.YtokeamebcdhnpaaGreatDoor
open Go.RowKit Go.Rp Go.Shelf Go.Maps Go.Cl

theorem GRaw.low {B B' : Nat} {W : World} {gv : Value} {vs : List Value} {G : List (List Nat)} (h : GRaw B W gv vs G) (hb : B' ≤ B) : GRaw B' W gv vs G :=
 ⟨own_mono h.own hb, fun j u g a b => own_mono (h.row j u g a b) hb, h.ap⟩
noncomputable def sortR (o : Ord) (l : List ByteArray) : List Nat := if 1 ≤ o.level ∧ o.level ≤ 4 then sortI (fun x y => decide (cmpB (keyT o (l.getD x ⟨#[]⟩)) (keyT o (l.getD y ⟨#[]⟩)) < 0)) (List.range l.length) else []
theorem sortR_lt (o : Ord) (l : List ByteArray) : ∀ x ∈ sortR o l, x < l.length := fun x hx => by
 unfold sortR at hx
 split at hx
 ·exact List.mem_range.1 ((sortI_mem _ _ _).1 hx)
 ·cases hx
theorem sortR_len (o : Ord) (l : List ByteArray) : (sortR o l).length ≤ l.length := by
 unfold sortR
 split
 ·rw [sortI_len, List.length_range]
  exact Nat.le_refl _
 ·exact Nat.zero_le _
theorem numRow_own {W : World} {B : Nat} {v : Value} {l : List Nat} (h : W.ownsRow B 3 1 v l.length (intsN l)) : NumRow W v l := (RowI.of_own h).opened
set_option maxRecDepth 100000 in
set_option maxHeartbeats 4000000 in
theorem c_SortA (v : Value) (l : List ByteArray) (o : Ord) (w : World) (hT : TabsC w) (h : TxtRow w v l) (hl : l.length < 20) (hs : ∀ s ∈ l, s.size ≤ 200) :
  Calls Tryz.prog 22 #[v, ordV o] w fun e w' => ∃ u, e = .returned u ∧ NumRow w' u (sortR o l) ∧ Ext w w' := by
 by_cases ho : 1 ≤ o.level ∧ o.level ≤ 4
 ·have e : sortR o l = sortI (fun x y => decide (cmpB (keyT o (l.getD x ⟨#[]⟩)) (keyT o (l.getD y ⟨#[]⟩)) < 0)) (List.range l.length) := if_pos ho
  rw [e]
  exact (c_Sort v l o w hT h hl hs ho).mono fun _ _ ⟨u, h1, h2, h3⟩ => ⟨u, h1, h2.opened, h3⟩
 ·have e : sortR o l = [] := if_neg ho
  rw [e]
  have HCK := Lib.hid (fun w => c_Check o w)
  rw [if_neg ho] at HCK
  go_enter Tryz.func22, Tryz.ntmps22
  go_wp2_with fail
  have HX0 := Lib.hid ((Ext.refl w).alloc (.cells #[.int .i64 o.level, .bool o.shift, .bool o.back, .bool o.great] 24))
  refine (HCK.out _).mono ?_
  rintro e w1 ⟨rfl, hx1⟩
  have HX1 := Lib.hid (HX0.out.trans hx1)
  clear hx1
  go_wp2_with fail
  exact ret_one rfl rfl rfl ⟨_, rfl, ⟨none, 0, rfl, Nat.le_refl _, fun h => absurd rfl h⟩, HX1.out⟩
set_option maxRecDepth 100000 in
set_option maxHeartbeats 4000000 in
theorem c_bkSortA (kb : Nat) (v : Value) (l : List ByteArray) (o : Ord) (w : World) (hk : BkAt w kb) (h : StrRow w v l) (hl : l.length ≤ 100) (hs : ∀ s ∈ l, s.size ≤ 200) :
  Calls Tryz.prog 28 #[.pointer (some ⟨kb, 0, none⟩), v, ordV o] w fun e w' => ∃ u, e = .returned u ∧ NumRow w' u (sortR o l) ∧ Ext w w' := by
 by_cases ho : 1 ≤ o.level ∧ o.level ≤ 4
 ·have e : sortR o l = sortI (fun x y => decide (cmpB (keyT o (l.getD x ⟨#[]⟩)) (keyT o (l.getD y ⟨#[]⟩)) < 0)) (List.range l.length) := if_pos ho
  rw [e]
  exact (c_bkSort kb v l o w hk h hl hs ho).mono fun _ _ ⟨u, h1, h2, h3⟩ => ⟨u, h1, numRow_own (by rw [sortI_len, List.length_range]; exact h2), h3⟩
 ·have e : sortR o l = [] := if_neg ho
  rw [e]
  have HCK := Lib.hid (fun w => c_RCheck o w)
  rw [if_neg ho] at HCK
  go_enter Tryz.func28, Tryz.ntmps28
  go_wp2_with fail
  have HX0 := Lib.hid ((Ext.refl w).alloc (.cells #[.int .i64 o.level, .bool o.shift, .bool o.back, .bool o.great] 24))
  refine (HCK.out _).mono ?_
  rintro e w1 ⟨rfl, hx1⟩
  have HX1 := Lib.hid (HX0.out.trans hx1)
  clear hx1
  go_wp2_with fail
  exact ret_one rfl rfl rfl ⟨_, rfl, ⟨none, 0, rfl, Nat.le_refl _, fun h => absurd rfl h⟩, HX1.out⟩
/-- Do two texts of a list compare as the same? -/
noncomputable def sameK (o : Ord) (l : List ByteArray) (x y : Nat) : Bool := decide (cmpB (keyT o (l.getD x ⟨#[]⟩)) (keyT o (l.getD y ⟨#[]⟩)) = 0)
set_option maxRecDepth 100000 in
set_option maxHeartbeats 8000000 in
theorem c_Groups (v : Value) (l : List ByteArray) (o : Ord) (w : World) (hT : TabsC w) (h : TxtRow w v l) (hl : l.length < 20) (hs : ∀ s ∈ l, s.size ≤ 200) :
  Calls Tryz.prog 23 #[v, ordV o] w fun e w' => ∃ u, e = .returned u ∧ (∃ vs, GRaw w.heap.size w' u vs (grpL (sameK o l) (sortR o l))) ∧ Ext w w' := by
 have HSO := Lib.hid (fun w' (hx : Ext w w') => c_SortA v l o w' (hT.ext hx) (h.ext hx) hl hs)
 have HC := Lib.hid (show ∀ i j, i < l.length → j < l.length → ∀ w', Ext w w' → Calls Tryz.prog 18 #[.string (l.getD i ⟨#[]⟩), .string (l.getD j ⟨#[]⟩), ordV o] w' fun e w'' => e = .returned (.int .i64 (cmpB (keyT o (l.getD i ⟨#[]⟩)) (keyT o (l.getD j ⟨#[]⟩)))) ∧ Ext w' w'' from fun i j hi hj w' hx => c_Compare _ _ o w' (hT.ext hx) (by rw [List.getD_eq_getElem?_getD, List.getElem?_eq_getElem hi]; exact hs _ (List.getElem_mem hi)) (by rw [List.getD_eq_getElem?_getD, List.getElem?_eq_getElem hj]; exact hs _ (List.getElem_mem hj)))
 have HR := Lib.hid (And.intro (sortR_lt o l) (sortR_len o l))
 have HW := Lib.hid h
 obtain ⟨p, cap, rfl, hcap, hp⟩ := h
 have HP := Lib.hid hp
 obtain ⟨R, hR⟩ : ∃ R, sortR o l = R := ⟨_, rfl⟩
 rw [hR] at HSO HR ⊢
 clear hp hs hR
 go_enter Tryz.func23, Tryz.ntmps23
 go_wp2_with fail
 have hx0 := (Ext.refl w).alloc (.cells #[.int .i64 o.level, .bool o.shift, .bool o.back, .bool o.great] 24)
 have hb0 := World.alloc_heap_new w (.cells #[.int .i64 o.level, .bool o.shift, .bool o.back, .bool o.great] 24)
 generalize w.alloc (.cells #[.int .i64 o.level, .bool o.shift, .bool o.back, .bool o.great] 24) = W0 at hx0 hb0 ⊢
 generalize w.heap.size = ob at hb0 ⊢
 refine (HSO.out _ hx0).mono ?_
 rintro e w1 ⟨u1, rfl, hr1, hx1⟩
 have HX1 := Lib.hid (hx0.trans hx1)
 have HB1 := Lib.hid (hx1.blk hb0)
 have HR1 := Lib.hid hr1
 obtain ⟨pr, cr, rfl, _, _⟩ := hr1
 clear hx0 hx1 hb0
 obtain ⟨W1, rfl⟩ : ∃ x, x = w1 := ⟨_, rfl⟩
 have hRI : ((R.length : Nat) : Int) < 20 := by have := HR.out.2; omega
 go_wp2_with fail
 go_loopw [5, 13] (fun ov iv W => ∃ (i : Nat) (vs : List Value), iv = .int .i64 (i : Nat) ∧ i ≤ R.length ∧ Hid (GRaw W1.heap.size W ov vs (grpL (sameK o l) (R.take i)) ∧ (grpL (sameK o l) (R.take i)).length ≤ i) ∧ Hid (Ext W1 W)) (fun _ iv _ => R.length + 1 - (intOf iv).toNat)
 case atStart => exact ⟨0, [], rfl, by omega, Lib.hid ⟨GRaw.nil _ _, Nat.le_refl _⟩, Lib.hid (Ext.refl _)⟩
 case round =>
  obtain ⟨i, vs, rfl, hi, HG, HX⟩ := hrel
  by_cases hlt : i < R.length
  ·have hI : ((i : Nat) : Int) < (R.length : Nat) := by omega
   have hd : decide (i < R.length) = true := decide_eq_true hlt
   have hb := HX.out.blk HB1.out
   obtain ⟨q, cq, eq, _, hcr⟩ := HR1.out.ext HX.out
   obtain ⟨gr, rfl, hc⟩ := hcr (by intro e; subst e; simp at hlt)
   cases eq
   have cx := hc i hlt
   obtain ⟨x, hx⟩ : ∃ x, R[i] = x := ⟨_, rfl⟩
   rw [hx] at cx
   have hxl : x < l.length := HR.out.1 x (by rw [← hx]; exact List.getElem_mem hlt)
   have HST := Lib.hid (show grpL (sameK o l) (R.take (i + 1)) = grpS (sameK o l) (grpL (sameK o l) (R.take i)) x by rw [List.take_succ_eq_append_getElem hlt, hx, grpL_snoc])
   have HNE := Lib.hid (grpL_ne (sameK o l) (R.take i))
   have HLG := Lib.hid (show ∀ g ∈ grpL (sameK o l) (R.take i), g.length ≤ 1000 from fun g hg => by
    have h1 := grpL_len (sameK o l) (R.take i) g hg
    rw [List.length_take] at h1
    omega)
   have HMM := Lib.hid (fun g hg y hy => HR.out.1 y (List.mem_of_mem_take (grpL_mem (sameK o l) (R.take i) g hg y hy)))
   obtain ⟨G, hG⟩ : ∃ G, grpL (sameK o l) (R.take i) = G := ⟨_, rfl⟩
   rw [hG] at HG HST HNE HMM HLG
   obtain ⟨pg, cg, rfl⟩ := own_slice HG.out.1.own
   clear hx hc hG
   obtain ⟨gp, rfl, hcp⟩ := HP.out (by intro e; subst e; simp at hxl)
   have cxs := (HX1.out.trans HX.out).cell (hcp x hxl)
   rw [show l[x] = l.getD x ⟨#[]⟩ by rw [List.getD_eq_getElem?_getD, List.getElem?_eq_getElem hxl]; rfl] at cxs
   rcases List.eq_nil_or_concat G with rfl | ⟨H, g, rfl⟩
   ·have HST2 := Lib.hid (show grpL (sameK o l) (R.take (i + 1)) = [[x]] by rw [HST.out, grpS_new])
    clear hb cxs
    go_wp2_with fail
    refine wp_lex (fun _ => True) [true, true, true, true, true, true, true, true, true, true, true, true, true, true, true, true, true, true, true, true] (by kernel_rfl) (by kernel_rfl) ?_
    repeat first
     | refine wpG_move' ?_
     | refine wpG_assign' ?_
     | refine wpG_val' ?_
     | refine wpG_no' ?_
    refine wpG_end (fun w6 hx6 => wpList_nil (gQ_normal ?_))
    have HG6 := Lib.hid (HG.out.1.ext hx6)
    have HX6 := Lib.hid (HX.out.trans hx6)
    clear hx6
    go_wp2_with (at_builtin; refine Hid.out ?_)
    refine Lib.hid ?_
    have hxa := (Ext.refl w6).alloc (.cells #[.int .i64 (x : Nat)] 3)
    have hba := World.alloc_heap_new w6 (.cells #[.int .i64 (x : Nat)] 3)
    have hsa := World.size_alloc w6 (.cells #[.int .i64 (x : Nat)] 3)
    generalize w6.alloc (.cells #[.int .i64 (x : Nat)] 3) = wa at hxa hba hsa ⊢
    have hGL := HG6.out
    have hWX := HX6.out
    obtain ⟨nb, hnb⟩ : ∃ n, w6.heap.size = n := ⟨_, rfl⟩
    have hNB := hWX.sz
    have hfr : ∀ (j : Nat) v, vs[j]? = some v → ∀ b, v.ownBlock = some b → b < nb := fun j v hv b hb => by
     have hl := hGL.own.1
     have hj := (List.getElem?_eq_some_iff.1 hv).1
     have := ((hGL.row j v _ hv (List.getElem?_eq_getElem (by omega))).lt _ hb).2
     omega
    rw [hnb] at hba hsa hNB ⊢
    have hxb := (Ext.refl wa).alloc (.cells #[.slice (some ⟨nb, 0, none⟩) 1 1] 42)
    have hbb := World.alloc_heap_new wa (.cells #[.slice (some ⟨nb, 0, none⟩) 1 1] 42)
    rw [hsa] at hbb
    generalize wa.alloc (.cells #[.slice (some ⟨nb, 0, none⟩) 1 1] 42) = wb at hxb hbb ⊢
    have HGB := Lib.hid (hGL.ext (hxa.trans hxb))
    have HWX := Lib.hid (hWX.trans (hxa.trans hxb))
    have HU := Lib.hid (show wb.ownsRow W1.heap.size 3 1 (.slice (some ⟨nb, 0, none⟩) 1 1) [x].length (intsN [x]) from ⟨rfl, .inr ⟨nb, 1, #[.int .i64 (x : Nat)], rfl, hNB, hxb.blk hba, Nat.le_refl _, by unfold maxLen; omega, rfl, rfl⟩⟩)
    have HFR := Lib.hid hfr
    have hgn : ([] : List (List Nat)).length ≤ 1000 := by have h1 := HG.out.2; (try simp only [List.concat_eq_append] at h1); omega
    have hown0 := HGB.out.own
    skip
    obtain ⟨i0, hi0, hz0, hz1, hz3⟩ := info_parts infoInts
    clear hxa hba hsa hxb hGL hWX hnb hNB hfr
    refine wpList_append_own_at wb rfl (.tmp 50) (.tmp 53) 44 rfl W1.heap.size 42 i0 (.slice none 0 0) 1 24 Tryz.underlying44 hi0 hz0 hz1 hz3 rfl (by decide) _ _ vs rfl hown0 ⟨nb + 1, 0, none⟩ 1 1 [.slice (some ⟨nb, 0, none⟩) 1 1] rfl rfl (fun j u hj => by rw [Addr.add_lit]; exact (cell_blk hbb (0 + j)).trans (by simpa using hj)) (by intro u hu; simp at hu; subst hu; rfl) (by unfold maxLen; omega) (by omega) HWX.out.sz ?_
    intro v' w9 g1 g2 _ _
    have HGN := Lib.hid (HGB.out.push HU.out (fun j v hv b hb e => by have := HFR.out j v hv b hb; have := Option.some.inj e; simp only at this; omega) (by skip; exact g1) g2)
    have HXN := Lib.hid (show Ext W1 w9 from Below.grown HWX.out g2 HWX.out.sz (fun k e => (HGB.out.own.lt k e).1))
    clear g1 g2 HGB HU HFR HWX hbb
    go_wp2_with fail
    exact ⟨⟨i + 1, vs ++ [.slice (some ⟨nb, 0, none⟩) 1 1], by simp, by omega, Lib.hid ⟨by rw [HST2.out]; exact HGN.out, by rw [HST2.out]; have h1 := HG.out.2; first | (simp only [List.length_nil] at h1; simp only [List.length_cons, List.length_nil]; omega) | (simp only [List.length_append, List.length_cons, List.length_nil] at h1; simp only [List.length_append, List.length_cons, List.length_nil]; omega) ⟩, HXN⟩, by simp only [intOf]; omega⟩
   ·rw [List.concat_eq_append] at HG HST HNE HMM HLG
    have hgl : (H ++ [g]).length = H.length + 1 := by simp
    have hHI : ((H.length : Nat) : Int) < 20 := by have := HG.out.2; omega
    have hHJ : ((H.length : Nat) : Int) < (H.length : Nat) + 1 := by omega
    obtain ⟨gb, cgb, u, eg, hgb, cu, hvu, hou⟩ := HG.out.1.at (j := H.length) (by omega)
    cases eg
    rw [show (H.concat g).length = H.length + 1 by simp]
    obtain ⟨g0, gt, rfl⟩ : ∃ g0 gt, g = g0 :: gt := by
     cases g with
     | nil => exact absurd rfl (HNE.out [] (by simp))
     | cons a b => exact ⟨a, b, rfl⟩
    have hg0 : g0 < l.length := HMM.out (g0 :: gt) (by simp) g0 (by simp)
    have hgx : (H ++ [g0 :: gt])[H.length] = g0 :: gt := by simp
    rw [hgx] at hou
    obtain ⟨pu, cuu, rfl⟩ := own_slice hou
    obtain ⟨gu, rfl, _, _, hcu⟩ := own_at hou (by simp)
    have c00 : wr.cell? ⟨gu, 0, none⟩ = some (.int .i64 (g0 : Nat)) := hcu 0 (by simp)
    have cgs := (HX1.out.trans HX.out).cell (hcp g0 hg0)
    rw [show l[g0] = l.getD g0 ⟨#[]⟩ by rw [List.getD_eq_getElem?_getD, List.getElem?_eq_getElem hg0]; rfl] at cgs
    have HCM := Lib.hid (HC.out g0 x hg0 hxl)
    have HST2 := Lib.hid (show grpL (sameK o l) (R.take (i + 1)) = if sameK o l g0 x = true then H ++ [(g0 :: gt) ++ [x]] else H ++ [g0 :: gt] ++ [[x]] by rw [HST.out, grpS_more]; rfl)
    have hsk : sameK o l g0 x = decide (cmpB (keyT o (l.getD g0 ⟨#[]⟩)) (keyT o (l.getD x ⟨#[]⟩)) = 0) := rfl
    obtain ⟨cv, hcv⟩ : ∃ c, cmpB (keyT o (l.getD g0 ⟨#[]⟩)) (keyT o (l.getD x ⟨#[]⟩)) = c := ⟨_, rfl⟩
    rw [hcv] at HCM hsk
    rw [hsk] at HST2
    have hxI : ((x : Nat) : Int) < (l.length : Nat) := by omega
    have hgI : ((g0 : Nat) : Int) < (l.length : Nat) := by omega
    have m0 : ∀ w', EOn (fun _ => True) wr w' → w'.cell? ⟨gb, H.length, none⟩ = some (.slice (some ⟨gu, 0, none⟩) (g0 :: gt).length cuu) := fun w' hx => hx.cell trivial cu
    have m1 : ∀ w', EOn (fun _ => True) wr w' → w'.cell? ⟨gu, 0, none⟩ = some (.int .i64 (g0 : Nat)) := fun w' hx => hx.cell trivial c00
    have m2 : ∀ w', EOn (fun _ => True) wr w' → w'.cell? ⟨gp, g0, none⟩ = some (.string (l.getD g0 ⟨#[]⟩)) := fun w' hx => hx.cell trivial cgs
    have m3 : ∀ w', EOn (fun _ => True) wr w' → w'.cell? ⟨gp, x, none⟩ = some (.string (l.getD x ⟨#[]⟩)) := fun w' hx => hx.cell trivial cxs
    have q0 : ∀ w', EOn (fun _ => True) wr w' → w'.cell? ⟨ob, 0, none⟩ = some (.int .i64 o.level) := fun w' hx => hx.cell trivial ((cell_blk hb 0).trans rfl)
    have q1 : ∀ w', EOn (fun _ => True) wr w' → w'.cell? ⟨ob, 1, none⟩ = some (.bool o.shift) := fun w' hx => hx.cell trivial ((cell_blk hb 1).trans rfl)
    have q2 : ∀ w', EOn (fun _ => True) wr w' → w'.cell? ⟨ob, 2, none⟩ = some (.bool o.back) := fun w' hx => hx.cell trivial ((cell_blk hb 2).trans rfl)
    have q3 : ∀ w', EOn (fun _ => True) wr w' → w'.cell? ⟨ob, 3, none⟩ = some (.bool o.great) := fun w' hx => hx.cell trivial ((cell_blk hb 3).trans rfl)
    obtain ⟨ls, hls⟩ : ∃ y, l.getD g0 ⟨#[]⟩ = y := ⟨_, rfl⟩
    obtain ⟨lx, hlx⟩ : ∃ y, l.getD x ⟨#[]⟩ = y := ⟨_, rfl⟩
    rw [hls] at m2 HCM
    rw [hlx] at m3 HCM
    obtain ⟨gl, hgl2⟩ : ∃ n, (g0 :: gt).length = n := ⟨_, rfl⟩
    have hgl0 : 0 < gl := by rw [← hgl2]; simp
    have hgl0I : (0 : Int) < (gl : Nat) := by omega
    rw [hgl2] at m0
    have HGL := Lib.hid hgl2
    have HVU := Lib.hid hvu
    clear cu c00 cgs cxs hb hcu hou hls hlx hcv hsk hgx hgl2 hvu hg0 hcp
    go_wp2_with fail
    refine wp_lex (fun _ => True) [true, true, true, true, true, true, true, true, true, true, true, true, true, true, true, true, true, false, true, true] (by kernel_rfl) (by kernel_rfl) ?_
    repeat first
     | refine wpG_move' ?_
     | refine wpG_assign' ?_
     | refine wpG_val' ?_
     | refine wpG_no' ?_
    refine wpG_do (by rfl) (fun w5 hx5 K hK => ?_)
    go_wp2_with fail
    refine (HCM.out w5 (HX1.out.trans (HX.out.trans hx5))).mono ?_
    rintro e w6 ⟨rfl, hx6⟩
    refine hK _ _ ⟨EOn.of_ext hx6, ?_⟩
    clear hK
    by_cases hz : cv = 0
    ·subst hz
     have HST3 := Lib.hid (show grpL (sameK o l) (R.take (i + 1)) = H ++ [(g0 :: gt) ++ [x]] by rw [HST2.out, if_pos (by decide)])
     repeat first
      | refine wpG_move' ?_
      | refine wpG_assign' ?_
      | refine wpG_val' ?_
      | refine wpG_no' ?_
     refine wpG_end (fun w7 hx7 => wpList_nil (gQ_normal ?_))
     have HE7 := Lib.hid (hx5.trans (hx6.trans hx7))
     have cu7 := m0 w7 (EOn.of_ext HE7.out)
     clear hx5 hx6 hx7 m0 m1 m2 m3 q0 q1 q2 q3
     go_wp2_with (at_builtin; refine Hid.out ?_)
     refine Lib.hid ?_
     have hxa := (Ext.refl w7).alloc (.cells #[.int .i64 (x : Nat)] 3)
     have hba := World.alloc_heap_new w7 (.cells #[.int .i64 (x : Nat)] 3)
     generalize w7.alloc (.cells #[.int .i64 (x : Nat)] 3) = wa at hxa hba ⊢
     generalize w7.heap.size = nb at hba ⊢
     obtain ⟨vs', vl, rfl⟩ : ∃ vs' vl, vs = vs' ++ [vl] := by
      rcases List.eq_nil_or_concat vs with rfl | ⟨a, b, rfl⟩
      ·exact absurd HG.out.1.own.1 (by simp)
      ·exact ⟨a, b, by rw [List.concat_eq_append]⟩
     have hvl : vs'.length = H.length := by
      have := HG.out.1.own.1
      simp at this
      omega
     obtain rfl : vl = .slice (some ⟨gu, 0, none⟩) (g0 :: gt).length cuu := by
      have h1 := HVU.out
      rw [List.getElem?_append_right (by omega), hvl, Nat.sub_self] at h1
      exact Option.some.inj h1
     have HGA := Lib.hid (show GRaw W1.heap.size wa (.slice (some ⟨gb, 0, none⟩) (H.length + 1) cg) (vs' ++ [.slice (some ⟨gu, 0, none⟩) (g0 :: gt).length cuu]) (H ++ [g0 :: gt]) from by
      have := HG.out.1.ext (HE7.out.trans hxa)
      rw [hgl] at this
      exact this)
     have HXA := Lib.hid (HX.out.trans (HE7.out.trans hxa))
     have HUA := Lib.hid (HGA.out.row H.length (.slice (some ⟨gu, 0, none⟩) (g0 :: gt).length cuu) (g0 :: gt) (by rw [List.getElem?_append_right (by omega), hvl, Nat.sub_self]; rfl) (by rw [List.getElem?_append_right (Nat.le_refl _), Nat.sub_self]; rfl))
     have HSUM := Lib.hid (show (g0 :: gt).length ≤ 1000 from HLG.out (g0 :: gt) (by simp))
     rw [HGL.out] at HUA HSUM
     have hsm := HSUM.out
     obtain ⟨i0, hi0, hz0, hz1, hz3⟩ := info_parts Tryz.infoInt
     clear hxa HE7 cu7
     refine wpList_append_own_at wa rfl (.tmp 45) (.tmp 47) 42 rfl W1.heap.size 3 i0 (.int .i64 0) 1 8 Tryz.underlying42 hi0 hz0 hz1 hz3 rfl (by decide) _ gl (intsN (g0 :: gt)) rfl HUA.out ⟨nb, 0, none⟩ 1 1 [.int .i64 (x : Nat)] rfl rfl (fun j u hj => by rw [Addr.add_lit]; exact (cell_blk hba (0 + j)).trans (by simpa using hj)) (by intro u hu; simp at hu; subst hu; rfl) (by unfold maxLen; omega) (by omega) HXA.out.sz ?_
     intro v' w9 g1 g2 _ g4
     obtain ⟨pv, cv9, rfl⟩ := own_slice g1
     have hx9 : Ext W1 w9 := Below.grown HXA.out g2 HXA.out.sz (fun k e => (HUA.out.lt k e).1)
     have ho9 := HGA.out.own.kept g2 (own_ne HGA.out.own HUA.out (by decide))
     rw [hgl] at ho9
     obtain ⟨⟨cur, hb9⟩, _⟩ := own_blk ho9
     obtain ⟨gq, eq9, _, _, hc9⟩ := own_at ho9 (by omega)
     cases eq9
     have HGN := Lib.hid (GRaw.more (i := x) HGA.out (Ext.refl w9) (by rw [HGL.out]; exact g1) (by rw [HGL.out]; exact g2) (by rw [HGL.out]; exact g4))
     have HXN := Lib.hid (hx9.setCell (p := ⟨gb, H.length, none⟩) hgb (.slice pv (gl + 1) cv9))
     have c9 : w9.cell? ⟨gb, H.length, none⟩ = some (.slice (some ⟨gu, 0, none⟩) gl cuu) := by
      rw [hc9 H.length (by omega), List.getElem?_append_right (by omega), hvl, Nat.sub_self, HGL.out]
      rfl
     have f9 := frz_blk hb9 H.length
     clear g1 g2 g4 hx9 ho9 hb9 hc9 HGA HUA HXA hba
     go_wp2_with fail
     exact ⟨⟨i + 1, _, by simp, by omega, Lib.hid ⟨by rw [HST3.out]; exact HGN.out, by rw [HST3.out]; have h1 := HG.out.2; simp only [List.length_append, List.length_cons, List.length_nil] at h1 ⊢; omega⟩, HXN⟩, by simp only [intOf]; omega⟩
    ·have hzq : (cv == 0) = false := beq_false_of_ne hz
     have HST3 := Lib.hid (show grpL (sameK o l) (R.take (i + 1)) = (H ++ [g0 :: gt]) ++ [[x]] by rw [HST2.out, if_neg (by simp [hz])])
     clear hz
     repeat first
      | refine wpG_move' ?_
      | refine wpG_assign' ?_
      | refine wpG_val' ?_
      | refine wpG_no' ?_
     refine wpG_end (fun w7 hx7 => wpList_nil (gQ_normal ?_))
     have HE7 := Lib.hid (hx5.trans (hx6.trans hx7))
     clear hx5 hx6 hx7 m0 m1 m2 m3 q0 q1 q2 q3
     go_wp2_with (at_builtin; refine Hid.out ?_)
     refine Lib.hid ?_
     have hxa := (Ext.refl w7).alloc (.cells #[.int .i64 (x : Nat)] 3)
     have hba := World.alloc_heap_new w7 (.cells #[.int .i64 (x : Nat)] 3)
     have hsa := World.size_alloc w7 (.cells #[.int .i64 (x : Nat)] 3)
     generalize w7.alloc (.cells #[.int .i64 (x : Nat)] 3) = wa at hxa hba hsa ⊢
     have hGL := (HG.out.1.ext HE7.out)
     have hWX := (HX.out.trans HE7.out)
     obtain ⟨nb, hnb⟩ : ∃ n, w7.heap.size = n := ⟨_, rfl⟩
     have hNB := hWX.sz
     have hfr : ∀ (j : Nat) v, vs[j]? = some v → ∀ b, v.ownBlock = some b → b < nb := fun j v hv b hb => by
      have hl := hGL.own.1
      have hj := (List.getElem?_eq_some_iff.1 hv).1
      have := ((hGL.row j v _ hv (List.getElem?_eq_getElem (by omega))).lt _ hb).2
      omega
     rw [hnb] at hba hsa hNB ⊢
     have hxb := (Ext.refl wa).alloc (.cells #[.slice (some ⟨nb, 0, none⟩) 1 1] 42)
     have hbb := World.alloc_heap_new wa (.cells #[.slice (some ⟨nb, 0, none⟩) 1 1] 42)
     rw [hsa] at hbb
     generalize wa.alloc (.cells #[.slice (some ⟨nb, 0, none⟩) 1 1] 42) = wb at hxb hbb ⊢
     have HGB := Lib.hid (hGL.ext (hxa.trans hxb))
     have HWX := Lib.hid (hWX.trans (hxa.trans hxb))
     have HU := Lib.hid (show wb.ownsRow W1.heap.size 3 1 (.slice (some ⟨nb, 0, none⟩) 1 1) [x].length (intsN [x]) from ⟨rfl, .inr ⟨nb, 1, #[.int .i64 (x : Nat)], rfl, hNB, hxb.blk hba, Nat.le_refl _, by unfold maxLen; omega, rfl, rfl⟩⟩)
     have HFR := Lib.hid hfr
     have hgn : ((H ++ [g0 :: gt]) : List (List Nat)).length ≤ 1000 := by have h1 := HG.out.2; (try simp only [List.concat_eq_append] at h1); omega
     have hown0 := HGB.out.own
     rw [hgl] at hown0
     obtain ⟨i0, hi0, hz0, hz1, hz3⟩ := info_parts infoInts
     clear hxa hba hsa hxb hGL hWX hnb hNB hfr
     refine wpList_append_own_at wb rfl (.tmp 50) (.tmp 53) 44 rfl W1.heap.size 42 i0 (.slice none 0 0) 1 24 Tryz.underlying44 hi0 hz0 hz1 hz3 rfl (by decide) _ _ vs rfl hown0 ⟨nb + 1, 0, none⟩ 1 1 [.slice (some ⟨nb, 0, none⟩) 1 1] rfl rfl (fun j u hj => by rw [Addr.add_lit]; exact (cell_blk hbb (0 + j)).trans (by simpa using hj)) (by intro u hu; simp at hu; subst hu; rfl) (by unfold maxLen; omega) (by omega) HWX.out.sz ?_
     intro v' w9 g1 g2 _ _
     have HGN := Lib.hid (HGB.out.push HU.out (fun j v hv b hb e => by have := HFR.out j v hv b hb; have := Option.some.inj e; simp only at this; omega) (by rw [hgl]; exact g1) g2)
     have HXN := Lib.hid (show Ext W1 w9 from Below.grown HWX.out g2 HWX.out.sz (fun k e => (HGB.out.own.lt k e).1))
     clear g1 g2 HGB HU HFR HWX hbb
     go_wp2_with fail
     exact ⟨⟨i + 1, vs ++ [.slice (some ⟨nb, 0, none⟩) 1 1], by simp, by omega, Lib.hid ⟨by rw [HST3.out]; exact HGN.out, by rw [HST3.out]; have h1 := HG.out.2; first | (simp only [List.length_nil] at h1; simp only [List.length_cons, List.length_nil]; omega) | (simp only [List.length_append, List.length_cons, List.length_nil] at h1; simp only [List.length_append, List.length_cons, List.length_nil]; omega) ⟩, HXN⟩, by simp only [intOf]; omega⟩
  ·have hI : ¬ ((i : Nat) : Int) < (R.length : Nat) := by omega
   have hd : decide (i < R.length) = false := decide_eq_false hlt
   obtain rfl : i = R.length := by omega
   rw [List.take_length] at HG
   clear hlt hi
   go_wp2_with fail
   exact ret_one rfl rfl rfl ⟨_, rfl, ⟨vs, HG.out.1.low HX1.out.sz⟩, HX1.out.trans HX.out⟩
theorem third_eq {o : Ord} {l : List ByteArray} {R : List Nat} {a j x : Nat} (h : a + 1 = j + 1) (hR : R.getD a 0 = x) : keyT o (l.getD (([x] : List Nat).headD 0) ⟨#[]⟩) = keyT o (l.getD (R.getD j 0) ⟨#[]⟩) := by
 obtain rfl : a = j := by omega
 rw [hR]
 rfl
set_option maxRecDepth 100000 in
set_option maxHeartbeats 8000000 in
theorem c_bkGroups (kb : Nat) (v : Value) (l : List ByteArray) (o : Ord) (w : World) (hk : BkAt w kb) (h : StrRow w v l) (hl : l.length ≤ 100) (hs : ∀ s ∈ l, s.size ≤ 200) :
  Calls Tryz.prog 24 #[.pointer (some ⟨kb, 0, none⟩), v, ordV o] w fun e w' => ∃ u, e = .returned u ∧ (∃ vs, GRaw w.heap.size w' u vs (grpL (sameK o l) (sortR o l))) ∧ Ext w w' := by
 have HSO := Lib.hid (fun w' (hx : Ext w w') => c_bkSortA kb v l o w' (hk.ext hx) (h.mono hx) hl hs)
 have HC := Lib.hid (show ∀ i j, i < l.length → j < l.length → ∀ w', Ext w w' → Calls Tryz.prog 19 #[.pointer (some ⟨kb, 0, none⟩), .string (l.getD i ⟨#[]⟩), .string (l.getD j ⟨#[]⟩), ordV o] w' fun e w'' => e = .returned (.int .i64 (cmpB (keyT o (l.getD i ⟨#[]⟩)) (keyT o (l.getD j ⟨#[]⟩)))) ∧ Ext w' w'' from fun i j hi hj w' hx => c_bkCompare kb _ _ o w' (hk.ext hx) (by rw [List.getD_eq_getElem?_getD, List.getElem?_eq_getElem hi]; exact hs _ (List.getElem_mem hi)) (by rw [List.getD_eq_getElem?_getD, List.getElem?_eq_getElem hj]; exact hs _ (List.getElem_mem hj)))
 have HR := Lib.hid (And.intro (sortR_lt o l) (Nat.le_trans (sortR_len o l) hl))
 have HW := Lib.hid h
 obtain ⟨p, cap, rfl, hp⟩ := h
 have HP := Lib.hid hp
 obtain ⟨R, hR⟩ : ∃ R, sortR o l = R := ⟨_, rfl⟩
 rw [hR] at HSO HR ⊢
 clear hp hs hR
 go_enter Tryz.func24, Tryz.ntmps24
 go_wp2_with fail
 have hx0 := (Ext.refl w).alloc (.cells #[.int .i64 o.level, .bool o.shift, .bool o.back, .bool o.great] 24)
 have hb0 := World.alloc_heap_new w (.cells #[.int .i64 o.level, .bool o.shift, .bool o.back, .bool o.great] 24)
 generalize w.alloc (.cells #[.int .i64 o.level, .bool o.shift, .bool o.back, .bool o.great] 24) = W0 at hx0 hb0 ⊢
 generalize w.heap.size = ob at hb0 ⊢
 refine (HSO.out _ hx0).mono ?_
 rintro e w1 ⟨u1, rfl, hr1, hx1⟩
 have HX1 := Lib.hid (hx0.trans hx1)
 have HB1 := Lib.hid (hx1.blk hb0)
 have HR1 := Lib.hid hr1
 obtain ⟨pr, cr, rfl, _, _⟩ := hr1
 clear hx0 hx1 hb0
 obtain ⟨W1, rfl⟩ : ∃ x, x = w1 := ⟨_, rfl⟩
 have hRI : ((R.length : Nat) : Int) ≤ 100 := by have := HR.out.2; omega
 go_wp2_with fail
 go_loopw [8, 9] (fun ov iv W => ∃ (i : Nat) (vs : List Value), iv = .int .i64 (i : Nat) ∧ i ≤ R.length ∧ Hid (GRaw W1.heap.size W ov vs (grpL (sameK o l) (R.take i)) ∧ (grpL (sameK o l) (R.take i)).length ≤ i ∧ (∀ j, i = j + 1 → ∃ H g, grpL (sameK o l) (R.take i) = H ++ [g] ∧ keyT o (l.getD (g.headD 0) ⟨#[]⟩) = keyT o (l.getD (R.getD j 0) ⟨#[]⟩))) ∧ Hid (Ext W1 W)) (fun _ iv _ => R.length + 1 - (intOf iv).toNat)
 case atStart => exact ⟨0, [], rfl, by omega, Lib.hid ⟨GRaw.nil _ _, Nat.le_refl _, fun j h => absurd h (by omega)⟩, Lib.hid (Ext.refl _)⟩
 case round =>
  obtain ⟨i, vs, rfl, hi, HG, HX⟩ := hrel
  by_cases hlt : i < R.length
  ·have hI : ((i : Nat) : Int) < (R.length : Nat) := by omega
   have hd : decide (i < R.length) = true := decide_eq_true hlt
   have hb := HX.out.blk HB1.out
   obtain ⟨q, cq, eq, _, hcr⟩ := HR1.out.ext HX.out
   obtain ⟨gr, rfl, hc⟩ := hcr (by intro e; subst e; simp at hlt)
   cases eq
   have cx := hc i hlt
   obtain ⟨x, hx⟩ : ∃ x, R[i] = x := ⟨_, rfl⟩
   rw [hx] at cx
   have hxl : x < l.length := HR.out.1 x (by rw [← hx]; exact List.getElem_mem hlt)
   have HST := Lib.hid (show grpL (sameK o l) (R.take (i + 1)) = grpS (sameK o l) (grpL (sameK o l) (R.take i)) x by rw [List.take_succ_eq_append_getElem hlt, hx, grpL_snoc])
   have HXR := Lib.hid (show R.getD i 0 = x by rw [List.getD_eq_getElem?_getD, List.getElem?_eq_getElem hlt, hx]; rfl)
   have HLG := Lib.hid (show ∀ g ∈ grpL (sameK o l) (R.take i), g.length ≤ 1000 from fun g hg => by
    have h1 := grpL_len (sameK o l) (R.take i) g hg
    rw [List.length_take] at h1
    omega)
   have HNE := Lib.hid (grpL_ne (sameK o l) (R.take i))
   obtain ⟨b, off, rfl, _, hcp⟩ := HP.out (by intro e; subst e; simp at hxl)
   have cxs := (HX1.out.trans HX.out).cell (hcp x hxl)
   rw [show l[x] = l.getD x ⟨#[]⟩ by rw [List.getD_eq_getElem?_getD, List.getElem?_eq_getElem hxl]; rfl] at cxs
   rcases Nat.eq_zero_or_pos i with h0 | h0
   ·subst h0
    have hgn : grpL (sameK o l) (R.take 0) = [] := rfl
    rw [hgn] at HG HST
    have HST2 := Lib.hid (show grpL (sameK o l) (R.take (0 + 1)) = [[x]] by rw [HST.out, grpS_new])
    obtain ⟨pg, cg, rfl⟩ := own_slice HG.out.1.own
    have hnn : ¬ (0 : Int) < ((0 : Nat) : Int) := by omega
    clear hb cxs hx hgn
    go_wp2_with fail
    refine wp_lex (fun _ => True) [true, true, true, true, true, true, true, true, true, true, true, true, true, true, true, true, true, true, true, true, true, true, true] (by kernel_rfl) (by kernel_rfl) ?_
    repeat first
     | refine wpG_move' ?_
     | refine wpG_assign' ?_
     | refine wpG_val' ?_
     | refine wpG_no' ?_
    refine wpG_end (fun w6 hx6 => wpList_nil (gQ_normal ?_))
    have HG6 := Lib.hid (HG.out.1.ext hx6)
    have HX6 := Lib.hid (HX.out.trans hx6)
    replace cx := hx6.cell cx
    clear hx6
    go_wp2_with (at_builtin; refine Hid.out ?_)
    refine Lib.hid ?_
    have hxa := (Ext.refl w6).alloc (.cells #[.int .i64 (x : Nat)] 3)
    have hba := World.alloc_heap_new w6 (.cells #[.int .i64 (x : Nat)] 3)
    have hsa := World.size_alloc w6 (.cells #[.int .i64 (x : Nat)] 3)
    generalize w6.alloc (.cells #[.int .i64 (x : Nat)] 3) = wa at hxa hba hsa ⊢
    have hGL := HG6.out
    have hWX := HX6.out
    obtain ⟨nb, hnb⟩ : ∃ n, w6.heap.size = n := ⟨_, rfl⟩
    have hNB := hWX.sz
    have hfr : ∀ (j : Nat) v, vs[j]? = some v → ∀ b, v.ownBlock = some b → b < nb := fun j v hv b hb => by
     have hl := hGL.own.1
     have hj := (List.getElem?_eq_some_iff.1 hv).1
     have := ((hGL.row j v _ hv (List.getElem?_eq_getElem (by omega))).lt _ hb).2
     omega
    rw [hnb] at hba hsa hNB ⊢
    have hxb := (Ext.refl wa).alloc (.cells #[.slice (some ⟨nb, 0, none⟩) 1 1] 42)
    have hbb := World.alloc_heap_new wa (.cells #[.slice (some ⟨nb, 0, none⟩) 1 1] 42)
    rw [hsa] at hbb
    generalize wa.alloc (.cells #[.slice (some ⟨nb, 0, none⟩) 1 1] 42) = wb at hxb hbb ⊢
    have HGB := Lib.hid (hGL.ext (hxa.trans hxb))
    have HWX := Lib.hid (hWX.trans (hxa.trans hxb))
    have HU := Lib.hid (show wb.ownsRow W1.heap.size 3 1 (.slice (some ⟨nb, 0, none⟩) 1 1) [x].length (intsN [x]) from ⟨rfl, .inr ⟨nb, 1, #[.int .i64 (x : Nat)], rfl, hNB, hxb.blk hba, Nat.le_refl _, by unfold maxLen; omega, rfl, rfl⟩⟩)
    have HFR := Lib.hid hfr
    have hgn : ([] : List (List Nat)).length ≤ 1000 := by have h1 := HG.out.2.1; (try simp only [List.concat_eq_append] at h1); omega
    have hown0 := HGB.out.own
    skip
    obtain ⟨i0, hi0, hz0, hz1, hz3⟩ := info_parts infoInts
    clear hxa hba hsa hxb hGL hWX hnb hNB hfr
    refine wpList_append_own_at wb rfl (.tmp 60) (.tmp 66) 44 rfl W1.heap.size 42 i0 (.slice none 0 0) 1 24 Tryz.underlying44 hi0 hz0 hz1 hz3 rfl (by decide) _ _ vs rfl hown0 ⟨nb + 1, 0, none⟩ 1 1 [.slice (some ⟨nb, 0, none⟩) 1 1] rfl rfl (fun j u hj => by rw [Addr.add_lit]; exact (cell_blk hbb (0 + j)).trans (by simpa using hj)) (by intro u hu; simp at hu; subst hu; rfl) (by unfold maxLen; omega) (by omega) HWX.out.sz ?_
    intro v' w9 g1 g2 _ _
    have HGN := Lib.hid (HGB.out.push HU.out (fun j v hv b hb e => by have := HFR.out j v hv b hb; have := Option.some.inj e; simp only at this; omega) (by skip; exact g1) g2)
    have HXN := Lib.hid (show Ext W1 w9 from Below.grown HWX.out g2 HWX.out.sz (fun k e => (HGB.out.own.lt k e).1))
    clear g1 g2 HGB HU HFR HWX hbb
    go_wp2_with fail
    exact ⟨⟨0 + 1, vs ++ [.slice (some ⟨nb, 0, none⟩) 1 1], by simp, by omega, Lib.hid ⟨by rw [HST2.out]; exact HGN.out, by rw [HST2.out]; have h1 := HG.out.2.1; first | (simp only [List.length_nil] at h1; simp only [List.length_cons, List.length_nil]; omega) | (simp only [List.length_append, List.length_cons, List.length_nil] at h1; simp only [List.length_append, List.length_cons, List.length_nil]; omega) , fun j hj => ⟨[], [x], by rw [HST2.out]; rfl, (third_eq hj HXR.out)⟩⟩, HXN⟩, by simp only [intOf]; omega⟩
   ·obtain ⟨j, rfl⟩ : ∃ j, i = j + 1 := ⟨i - 1, by omega⟩
    obtain ⟨H, g, hHG, hkey⟩ := HG.out.2.2 j rfl
    rw [hHG] at HG HST HNE HLG
    have hjR : j < R.length := by omega
    have cy := hc j hjR
    obtain ⟨y, hy⟩ : ∃ y, R[j] = y := ⟨_, rfl⟩
    rw [hy] at cy
    have hyl : y < l.length := HR.out.1 y (by rw [← hy]; exact List.getElem_mem hjR)
    rw [show R.getD j 0 = y by rw [List.getD_eq_getElem?_getD, List.getElem?_eq_getElem hjR, hy]; rfl] at hkey
    have cys := (HX1.out.trans HX.out).cell (hcp y hyl)
    rw [show l[y] = l.getD y ⟨#[]⟩ by rw [List.getD_eq_getElem?_getD, List.getElem?_eq_getElem hyl]; rfl] at cys
    have hgl : (H ++ [g]).length = H.length + 1 := by simp
    have hHI : ((H.length : Nat) : Int) ≤ 100 := by have := HG.out.2.1; omega
    have hHJ : ((H.length : Nat) : Int) < (H.length : Nat) + 1 := by omega
    have hjJ : ((j : Nat) : Int) < (R.length : Nat) := by omega
    have hj0 : (0 : Int) < (j : Nat) + 1 := by omega
    obtain ⟨gb, cgb, u, eg, hgb, cu, hvu, hou⟩ := HG.out.1.at (j := H.length) (by omega)
    subst eg
    rw [hgl, Int.natCast_add, Int.natCast_one]
    obtain ⟨g0, gt, rfl⟩ : ∃ g0 gt, g = g0 :: gt := by
     cases g with
     | nil => exact absurd rfl (HNE.out [] (by simp))
     | cons a b => exact ⟨a, b, rfl⟩
    have hgx : (H ++ [g0 :: gt])[H.length] = g0 :: gt := by simp
    rw [hgx] at hou
    obtain ⟨pu, cuu, rfl⟩ := own_slice hou
    obtain ⟨gu, rfl, _, _, hcu⟩ := own_at hou (by simp)
    have HCM := Lib.hid (HC.out y x hyl hxl)
    have hkey : keyT o (l.getD g0 ⟨#[]⟩) = keyT o (l.getD y ⟨#[]⟩) := hkey
    have HST2 := Lib.hid (show grpL (sameK o l) (R.take (j + 1 + 1)) = if sameK o l g0 x = true then H ++ [(g0 :: gt) ++ [x]] else H ++ [g0 :: gt] ++ [[x]] by rw [HST.out, grpS_more]; rfl)
    have hsk : sameK o l g0 x = decide (cmpB (keyT o (l.getD y ⟨#[]⟩)) (keyT o (l.getD x ⟨#[]⟩)) = 0) := by unfold sameK; rw [hkey]
    obtain ⟨cv, hcv⟩ : ∃ c, cmpB (keyT o (l.getD y ⟨#[]⟩)) (keyT o (l.getD x ⟨#[]⟩)) = c := ⟨_, rfl⟩
    rw [hcv] at HCM hsk
    rw [hsk] at HST2
    have HKK := Lib.hid (show cv = 0 → keyT o (l.getD g0 ⟨#[]⟩) = keyT o (l.getD x ⟨#[]⟩) from fun h => by rw [hkey]; exact cmpB_eq (by rw [hcv]; exact h))
    have hxI : ((x : Nat) : Int) < (l.length : Nat) := by omega
    have hyI : ((y : Nat) : Int) < (l.length : Nat) := by omega
    have m0 : ∀ w', EOn (fun _ => True) wr w' → w'.cell? ⟨gr, j + 1, none⟩ = some (.int .i64 (x : Nat)) := fun w' hx => hx.cell trivial cx
    have m1 : ∀ w', EOn (fun _ => True) wr w' → w'.cell? ⟨gr, j, none⟩ = some (.int .i64 (y : Nat)) := fun w' hx => hx.cell trivial cy
    have m2 : ∀ w', EOn (fun _ => True) wr w' → w'.cell? ⟨b, off + y, none⟩ = some (.string (l.getD y ⟨#[]⟩)) := fun w' hx => hx.cell trivial cys
    have m3 : ∀ w', EOn (fun _ => True) wr w' → w'.cell? ⟨b, off + x, none⟩ = some (.string (l.getD x ⟨#[]⟩)) := fun w' hx => hx.cell trivial cxs
    have q0 : ∀ w', EOn (fun _ => True) wr w' → w'.cell? ⟨ob, 0, none⟩ = some (.int .i64 o.level) := fun w' hx => hx.cell trivial ((cell_blk hb 0).trans rfl)
    have q1 : ∀ w', EOn (fun _ => True) wr w' → w'.cell? ⟨ob, 1, none⟩ = some (.bool o.shift) := fun w' hx => hx.cell trivial ((cell_blk hb 1).trans rfl)
    have q2 : ∀ w', EOn (fun _ => True) wr w' → w'.cell? ⟨ob, 2, none⟩ = some (.bool o.back) := fun w' hx => hx.cell trivial ((cell_blk hb 2).trans rfl)
    have q3 : ∀ w', EOn (fun _ => True) wr w' → w'.cell? ⟨ob, 3, none⟩ = some (.bool o.great) := fun w' hx => hx.cell trivial ((cell_blk hb 3).trans rfl)
    obtain ⟨ls, hls⟩ : ∃ z, l.getD y ⟨#[]⟩ = z := ⟨_, rfl⟩
    obtain ⟨lx, hlx⟩ : ∃ z, l.getD x ⟨#[]⟩ = z := ⟨_, rfl⟩
    rw [hls] at m2 HCM
    rw [hlx] at m3 HCM
    obtain ⟨gl, hgl2⟩ : ∃ n, (g0 :: gt).length = n := ⟨_, rfl⟩
    rw [hgl2] at cu
    have HGL := Lib.hid hgl2
    have HVU := Lib.hid hvu
    clear cx cy cxs cys hb hcu hou hls hlx hcv hsk hgx hgl2 hvu hcp hkey hHG hx hy hlt hyl hjR h0
    go_wp2_with fail
    refine wp_lex (fun _ => True) [true, true, true, true, true, true, true, true, true, true, true, true, true, true, true, true, true, true, true, true, false, true, true] (by kernel_rfl) (by kernel_rfl) ?_
    repeat first
     | refine wpG_move' ?_
     | refine wpG_assign' ?_
     | refine wpG_val' ?_
     | refine wpG_no' ?_
    refine wpG_do (by rfl) (fun w5 hx5 K hK => ?_)
    go_wp2_with fail
    refine (HCM.out w5 (HX1.out.trans (HX.out.trans hx5))).mono ?_
    rintro e w6 ⟨rfl, hx6⟩
    refine hK _ _ ⟨EOn.of_ext hx6, ?_⟩
    clear hK
    by_cases hz : cv = 0
    ·subst hz
     have HST3 := Lib.hid (show grpL (sameK o l) (R.take (j + 1 + 1)) = H ++ [(g0 :: gt) ++ [x]] by rw [HST2.out, if_pos (by decide)])
     repeat first
      | refine wpG_move' ?_
      | refine wpG_assign' ?_
      | refine wpG_val' ?_
      | refine wpG_no' ?_
     refine wpG_end (fun w7 hx7 => wpList_nil (gQ_normal ?_))
     have HE7 := Lib.hid (hx5.trans (hx6.trans hx7))
     have cu7 := HE7.out.cell cu
     have cx7 := m0 w7 (EOn.of_ext HE7.out)
     clear hx5 hx6 hx7 m0 m1 m2 m3 q0 q1 q2 q3 cu
     go_wp2_with fail
     have HGRB := Lib.hid (show gr < W1.heap.size from by
      obtain ⟨q, c, e, _, h1⟩ := HR1.out
      obtain ⟨g, e2, h2⟩ := h1 (by intro e; rw [e] at hjJ; simp at hjJ; omega)
      rw [e2] at e
      cases e
      have hpos : 0 < R.length := by omega
      exact cell_lt (h2 0 hpos))
     obtain ⟨vs', vl, rfl⟩ : ∃ vs' vl, vs = vs' ++ [vl] := by
      rcases List.eq_nil_or_concat vs with rfl | ⟨a, b, rfl⟩
      ·exact absurd HG.out.1.own.1 (by simp)
      ·exact ⟨a, b, by rw [List.concat_eq_append]⟩
     have hvl : vs'.length = H.length := by
      have := HG.out.1.own.1
      simp at this
      omega
     obtain rfl : vl = .slice (some ⟨gu, 0, none⟩) (g0 :: gt).length cuu := by
      have h1 := HVU.out
      rw [List.getElem?_append_right (by omega), hvl, Nat.sub_self] at h1
      exact Option.some.inj h1
     have HG7 := Lib.hid (show GRaw W1.heap.size w7 (.slice (some ⟨gb, 0, none⟩) (H.length + 1) cgb) (vs' ++ [.slice (some ⟨gu, 0, none⟩) (g0 :: gt).length cuu]) (H ++ [g0 :: gt]) from by
      have := HG.out.1.ext HE7.out
      rw [hgl] at this
      exact this)
     have HU7 := Lib.hid (HG7.out.row H.length (.slice (some ⟨gu, 0, none⟩) (g0 :: gt).length cuu) (g0 :: gt) (by rw [List.getElem?_append_right (by omega), hvl, Nat.sub_self]; rfl) (by rw [List.getElem?_append_right (Nat.le_refl _), Nat.sub_self]; rfl))
     have HNB := Lib.hid (show gu ≠ gb from fun e => by
      rcases own_ne HU7.out HG7.out.own (by decide) with h | h
      ·cases h
      ·exact h (by rw [e]; rfl))
     have HSUM := Lib.hid (show (g0 :: gt).length ≤ 1000 from HLG.out (g0 :: gt) (by simp))
     rw [HGL.out] at HU7 HSUM
     have hsm := HSUM.out
     obtain ⟨i0, hi0, hz0, hz1, hz3⟩ := info_parts Tryz.infoInt
     have s0 : ∀ w', EOn (fun a => a.block = gb ∨ a.block < W1.heap.size) w7 w' → w'.cell? ⟨gb, H.length, none⟩ = some (.slice (some ⟨gu, 0, none⟩) gl cuu) := fun w' hx => hx.cell (.inl rfl) cu7
     have s1 : ∀ w', EOn (fun a => a.block = gb ∨ a.block < W1.heap.size) w7 w' → w'.cell? ⟨gr, j + 1, none⟩ = some (.int .i64 (x : Nat)) := fun w' hx => hx.cell (.inr HGRB.out) cx7
     clear cu7 cx7
     refine wp_lexN ((fun a => a.block = gb ∨ a.block < W1.heap.size)) [true, true, true, true, true, true, true, true, true, true, false, false] (by kernel_rfl) (by kernel_rfl) ?_
     repeat first
      | refine wpG_move' ?_
      | refine wpG_assign' ?_
      | refine wpG_val' ?_
      | refine wpG_no' ?_
     refine wpG_do (by rfl) (fun w8 hx8 K hK => ?_)
     go_wp2_with fail
     refine ⟨EOn.of_ext ((Ext.refl w8).alloc _), ?_⟩
     clear s0 s1
     have hxa := hx8.alloc (.cells #[.int .i64 (x : Nat)] 3)
     have hba := World.alloc_heap_new w8 (.cells #[.int .i64 (x : Nat)] 3)
     generalize w8.alloc (.cells #[.int .i64 (x : Nat)] 3) = wa at hxa hba ⊢
     generalize w8.heap.size = nb at hba ⊢
     have HGA := Lib.hid (HG7.out.ext hxa)
     have HUA := Lib.hid (ownsRow_ext HU7.out hxa)
     have HXA := Lib.hid (HX.out.trans (HE7.out.trans hxa))
     clear hx8 hxa HE7 HG7 HU7
     refine wpG_push rfl (fun a w h => by cases h.1) (.tmp 52) (.tmp 57) 42 rfl 3 i0 (.int .i64 0) 1 8 Tryz.underlying42 hi0 hz0 hz1 hz3 rfl (by decide) rfl HUA.out HXA.out.sz [.int .i64 (x : Nat)] nb 0 1 1 rfl rfl (fun j hj => by
      match j, hj with
      | 0, _ => exact (cell_blk hba 0).trans rfl) (by intro u hu; simp at hu; subst hu; rfl) (fun ad hS eq => by
      have h1 := (HUA.out.lt _ eq).1
      have h2 : gu = ad.block := Option.some.inj eq
      have h3 := HNB.out
      rcases hS with hS | hS
      ·exact h3 (by omega)
      ·omega) (by omega) (by decide) ?_
     intro v' w9 w10 hx9 g1 g2 g4
     obtain ⟨pv, cv9, rfl⟩ := own_slice g1
     have hG9 := HGA.out.ext hx9
     have hU9 := ownsRow_ext HUA.out hx9
     have hX10 : Ext W1 w10 := Below.grown (HXA.out.trans hx9) g2 (HXA.out.trans hx9).sz (fun k e => (hU9.lt k e).1)
     have ho10 := hG9.own.kept g2 (own_ne hG9.own hU9 (by decide))
     refine wpG_end (fun w11 hx11 => ?_)
     have ho9 := ownsRow_ext ho10 hx11
     rw [hgl] at ho9
     obtain ⟨⟨cur, hb9⟩, _⟩ := own_blk ho9
     obtain ⟨gq, eq9, _, _, hc9⟩ := own_at ho9 (by omega)
     cases eq9
     have HGN := Lib.hid (GRaw.more (i := x) hG9 hx11 (by rw [HGL.out]; exact g1) (by rw [HGL.out]; exact g2) (by rw [HGL.out]; exact g4))
     have HXN := Lib.hid ((hX10.trans hx11).setCell (p := ⟨gb, H.length, none⟩) hgb (.slice pv (gl + 1) cv9))
     have c9 : w11.cell? ⟨gb, H.length, none⟩ = some (.slice (some ⟨gu, 0, none⟩) gl cuu) := by
      rw [hc9 H.length (by omega), List.getElem?_append_right (by omega), hvl, Nat.sub_self, HGL.out]
      rfl
     have f9 := frz_blk hb9 H.length
     clear g1 g2 g4 hX10 ho9 ho10 hb9 hc9 HGA HUA HXA hba hG9 hU9 hx9 hx11
     go_wp2_with fail
     refine gQ_normal ⟨rfl, ?_⟩
     go_wp2_with fail
     exact ⟨⟨j + 1 + 1, _, by simp, by omega, Lib.hid ⟨by rw [HST3.out]; exact HGN.out, by rw [HST3.out]; have h1 := HG.out.2.1; simp only [List.length_append, List.length_cons, List.length_nil] at h1 ⊢; omega, fun j' hj' => ⟨H, g0 :: gt ++ [x], HST3.out, (HKK.out (by trivial)).trans (third_eq hj' HXR.out)⟩⟩, HXN⟩, by simp only [intOf]; omega⟩
    ·have hzq : (cv == 0) = false := beq_false_of_ne hz
     have HST3 := Lib.hid (show grpL (sameK o l) (R.take (j + 1 + 1)) = (H ++ [g0 :: gt]) ++ [[x]] by rw [HST2.out, if_neg (by simp [hz])])
     clear hz
     repeat first
      | refine wpG_move' ?_
      | refine wpG_assign' ?_
      | refine wpG_val' ?_
      | refine wpG_no' ?_
     refine wpG_end (fun w7 hx7 => wpList_nil (gQ_normal ?_))
     have HE7 := Lib.hid (hx5.trans (hx6.trans hx7))
     have cx7 := m0 w7 (EOn.of_ext HE7.out)
     clear hx5 hx6 hx7 m0 m1 m2 m3 q0 q1 q2 q3 cu
     go_wp2_with (at_builtin; refine Hid.out ?_)
     refine Lib.hid ?_
     have hxa := (Ext.refl w7).alloc (.cells #[.int .i64 (x : Nat)] 3)
     have hba := World.alloc_heap_new w7 (.cells #[.int .i64 (x : Nat)] 3)
     have hsa := World.size_alloc w7 (.cells #[.int .i64 (x : Nat)] 3)
     generalize w7.alloc (.cells #[.int .i64 (x : Nat)] 3) = wa at hxa hba hsa ⊢
     have hGL := (HG.out.1.ext HE7.out)
     have hWX := (HX.out.trans HE7.out)
     obtain ⟨nb, hnb⟩ : ∃ n, w7.heap.size = n := ⟨_, rfl⟩
     have hNB := hWX.sz
     have hfr : ∀ (j : Nat) v, vs[j]? = some v → ∀ b, v.ownBlock = some b → b < nb := fun j v hv b hb => by
      have hl := hGL.own.1
      have hj := (List.getElem?_eq_some_iff.1 hv).1
      have := ((hGL.row j v _ hv (List.getElem?_eq_getElem (by omega))).lt _ hb).2
      omega
     rw [hnb] at hba hsa hNB ⊢
     have hxb := (Ext.refl wa).alloc (.cells #[.slice (some ⟨nb, 0, none⟩) 1 1] 42)
     have hbb := World.alloc_heap_new wa (.cells #[.slice (some ⟨nb, 0, none⟩) 1 1] 42)
     rw [hsa] at hbb
     generalize wa.alloc (.cells #[.slice (some ⟨nb, 0, none⟩) 1 1] 42) = wb at hxb hbb ⊢
     have HGB := Lib.hid (hGL.ext (hxa.trans hxb))
     have HWX := Lib.hid (hWX.trans (hxa.trans hxb))
     have HU := Lib.hid (show wb.ownsRow W1.heap.size 3 1 (.slice (some ⟨nb, 0, none⟩) 1 1) [x].length (intsN [x]) from ⟨rfl, .inr ⟨nb, 1, #[.int .i64 (x : Nat)], rfl, hNB, hxb.blk hba, Nat.le_refl _, by unfold maxLen; omega, rfl, rfl⟩⟩)
     have HFR := Lib.hid hfr
     have hgn : ((H ++ [g0 :: gt]) : List (List Nat)).length ≤ 1000 := by have h1 := HG.out.2.1; (try simp only [List.concat_eq_append] at h1); omega
     have hown0 := HGB.out.own
     rw [hgl] at hown0
     obtain ⟨i0, hi0, hz0, hz1, hz3⟩ := info_parts infoInts
     clear hxa hba hsa hxb hGL hWX hnb hNB hfr
     refine wpList_append_own_at wb rfl (.tmp 60) (.tmp 66) 44 rfl W1.heap.size 42 i0 (.slice none 0 0) 1 24 Tryz.underlying44 hi0 hz0 hz1 hz3 rfl (by decide) _ _ vs rfl hown0 ⟨nb + 1, 0, none⟩ 1 1 [.slice (some ⟨nb, 0, none⟩) 1 1] rfl rfl (fun j u hj => by rw [Addr.add_lit]; exact (cell_blk hbb (0 + j)).trans (by simpa using hj)) (by intro u hu; simp at hu; subst hu; rfl) (by unfold maxLen; omega) (by omega) HWX.out.sz ?_
     intro v' w9 g1 g2 _ _
     have HGN := Lib.hid (HGB.out.push HU.out (fun j v hv b hb e => by have := HFR.out j v hv b hb; have := Option.some.inj e; simp only at this; omega) (by rw [hgl]; exact g1) g2)
     have HXN := Lib.hid (show Ext W1 w9 from Below.grown HWX.out g2 HWX.out.sz (fun k e => (HGB.out.own.lt k e).1))
     clear g1 g2 HGB HU HFR HWX hbb
     go_wp2_with fail
     exact ⟨⟨(j + 1) + 1, vs ++ [.slice (some ⟨nb, 0, none⟩) 1 1], by simp, by omega, Lib.hid ⟨by rw [HST3.out]; exact HGN.out, by rw [HST3.out]; have h1 := HG.out.2.1; first | (simp only [List.length_nil] at h1; simp only [List.length_cons, List.length_nil]; omega) | (simp only [List.length_append, List.length_cons, List.length_nil] at h1; simp only [List.length_append, List.length_cons, List.length_nil]; omega) , fun j' hj' => ⟨H ++ [g0 :: gt], [x], HST3.out, (third_eq hj' HXR.out)⟩⟩, HXN⟩, by simp only [intOf]; omega⟩
  ·have hI : ¬ ((i : Nat) : Int) < (R.length : Nat) := by omega
   have hd : decide (i < R.length) = false := decide_eq_false hlt
   obtain rfl : i = R.length := by omega
   rw [List.take_length] at HG
   clear hlt hi
   go_wp2_with fail
   exact ret_one rfl rfl rfl ⟨_, rfl, ⟨vs, HG.out.1.low HX1.out.sz⟩, HX1.out.trans HX.out⟩
end Go.Proofs.YtokeamebcdhnpaaGreatDoor
end
