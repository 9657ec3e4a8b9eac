/-
 What comes in as nil has no room. The law WrapLines: the document's lines and costs of whatever boxes; a copy of boxes. The law WrapLines.
-/
import Derived.Test.YtlmkbldiicbejaaGreatDoorRowBP
import Derived.Test.YtlmkbldiicbejaaGreatDoorLrZ
import Derived.Test.YtlmkbldiicbejaaGreatDoorApX
import Derived.Test.YtlmkbldiicbejaaGreatDoorLwA
section
namespace Go.Proofs.YtlmkbldiicbejaaGreatDoor
open Go.Shelf Go.Joins
open Go.ChangeShapes Go.WideShapes Go.ChangeAt Go.RowKit

set_option maxRecDepth 100000 in
theorem nil_boxes {H : Type} {enc : TypeId × Value → H} {W : World} {r : Reach} {base : Nat} {v : Value} {d : DataW H} {p : List MemPlace} (hv : Value.okWide Tryz.prog W r base 22 v)
  (h : DataW.Trod enc Tryz.prog W 0 (fun _ => true) true 22 v d p) : ∀ m c, v = .slice none m c → c = 0 := by
 obtain ⟨a0, len0, cap0, rfl⟩ := okWide_slice Tryz.underlying22 hv
 obtain ⟨fuel, hf⟩ := h
 intro m c e
 obtain ⟨rfl, -, rfl⟩ := Value.slice.inj e
 rcases DataW.trod_slice Tryz.underlying22 hf with ⟨hcs, _⟩ | ⟨a, len, cap, elems, rest, n, _, hcs, _, _, _, _, _, _, _, _⟩
 ·simp only [Value.cells, List.cons.injEq, and_true] at hcs
  exact (Value.slice.inj hcs).2.2
 ·simp only [Value.cells, List.cons.injEq, and_true] at hcs
  have := (Value.slice.inj hcs).1
  cases this
set_option maxRecDepth 100000 in
theorem nil_ints {H : Type} {enc : TypeId × Value → H} {W : World} {r : Reach} {base : Nat} {v : Value} {d : DataW H} {p : List MemPlace} (hv : Value.okWide Tryz.prog W r base 33 v)
  (h : DataW.Trod enc Tryz.prog W 0 (fun _ => true) true 33 v d p) : ∀ m c, v = .slice none m c → c = 0 := by
 obtain ⟨a0, len0, cap0, rfl⟩ := okWide_slice Tryz.underlying33 hv
 obtain ⟨fuel, hf⟩ := h
 intro m c e
 obtain ⟨rfl, -, rfl⟩ := Value.slice.inj e
 rcases DataW.trod_slice Tryz.underlying33 hf with ⟨hcs, _⟩ | ⟨a, len, cap, elems, rest, n, _, hcs, _, _, _, _, _, _, _, _⟩
 ·simp only [Value.cells, List.cons.injEq, and_true] at hcs
  exact (Value.slice.inj hcs).2.2
 ·simp only [Value.cells, List.cons.injEq, and_true] at hcs
  have := (Value.slice.inj hcs).1
  cases this
end Go.Proofs.YtlmkbldiicbejaaGreatDoor
end

section
namespace Go.Proofs.YtlmkbldiicbejaaGreatDoor
open Go.RowKit Go.Rp Go.Maps Go.Cl Go.Shelf Go.Gr Go.Ln

set_option maxRecDepth 100000 in
set_option maxHeartbeats 2000000 in
theorem c_rLinesA (v : Value) (l : List BxI) (W F R H : Int) (w : World) (h : BxRow w v l) (hn : l.length ≤ 64) :
  Calls Tryz.prog 15 #[v, .agg #[.int .i64 W, .int .i64 F, .int .i64 R, .int .i64 H]] w fun e w' => ∃ u, e = .returned (.tuple #[u, .int .i64 (chkK l W F R H).1]) ∧ w'.ownsRow w.heap.size 3 1 u (linA l W F R H).length (nW (linA l W F R H)) ∧ Ext w w' := by
 obtain ⟨p, cap, rfl, _, _⟩ := id h
 have HC := Lib.hid (fun W' (h' : Ext w W') => c_rCheck16 p cap l W F R H W' (h.ext h'))
 obtain ⟨LA, hLA⟩ : ∃ LA, linA l W F R H = LA := ⟨_, rfl⟩
 rw [hLA]
 by_cases h0 : (chkK l W F R H).1 = 0
 ·obtain ⟨hok, hl, hsm⟩ := chk_ok h0
  have hlb : (l.map unB).length = l.length := List.length_map ..
  have hP : NRowP w p l.length cap (l.map unB) := ⟨hlb.symm, by rw [← hl]; exact h⟩
  have hG := fun W' (h' : Ext w W') => c_rgreedy p l.length cap (l.map unB) W F R H W' (hP.ext h') hsm (by omega) hok.2.1 hok.2.2.1 hok.2.2.2.1
  have hE := fun W' (h' : Ext w W') => c_reven p l.length cap (l.map unB) W F R H W' (hP.ext h') hsm (by omega) hok.2.1 hok.2.2.1 hok.2.2.2.1
  rw [hlb] at hG hE
  rw [linA_ok h0] at hLA
  unfold Wp.linesK at hLA
  rw [hlb] at hLA
  have HG := Lib.hid hG
  have HE := Lib.hid hE
  have HH := Lib.hid hok.2.2.2.2
  have HLA := Lib.hid hLA
  generalize chkK l W F R H = c at HC h0 ⊢
  obtain ⟨c1, c2⟩ := c
  simp only at h0 HC ⊢
  subst h0
  clear hG hE hok hl hsm hP hLA hlb h
  go_enter Tryz.func15, Tryz.ntmps15
  go_wp2_with fail
  have hx0 := (Ext.refl w).alloc (.cells #[.int .i64 W, .int .i64 F, .int .i64 R, .int .i64 H] 24)
  have hbo := World.alloc_heap_new w (.cells #[.int .i64 W, .int .i64 F, .int .i64 R, .int .i64 H] 24)
  generalize w.alloc (.cells #[.int .i64 W, .int .i64 F, .int .i64 R, .int .i64 H] 24) = w0 at hx0 hbo ⊢
  obtain ⟨tb, htb⟩ : ∃ tb, w.heap.size = tb := ⟨_, rfl⟩
  rw [htb] at hbo ⊢
  refine (HC.out w0 hx0).mono ?_
  rintro e w1 ⟨rfl, hx1⟩
  have HX1 := Lib.hid (hx0.trans hx1)
  have hb1 := hx1.blk hbo
  have m0 : w1.cell? ⟨tb, 0, none⟩ = some (.int .i64 W) := (cell_blk hb1 0).trans rfl
  have m1 : w1.cell? ⟨tb, 1, none⟩ = some (.int .i64 F) := (cell_blk hb1 1).trans rfl
  have m2 : w1.cell? ⟨tb, 2, none⟩ = some (.int .i64 R) := (cell_blk hb1 2).trans rfl
  have m3 : w1.cell? ⟨tb, 3, none⟩ = some (.int .i64 H) := (cell_blk hb1 3).trans rfl
  have HTB := Lib.hid htb
  clear hx0 hx1 hbo hb1 htb
  rcases HH.out with rfl | rfl
  ·have HL0 := Lib.hid (show Wp.greedy ⟨W, F, R⟩ (l.map unB) l.length 0 = LA from HLA.out)
   go_wp2_with fail
   refine (HG.out w1 HX1.out).mono ?_
   rintro e w2 ⟨u, rfl, hown, hx2⟩
   have HO := Lib.hid hown
   have HX2 := Lib.hid (HX1.out.trans hx2)
   clear hown hx2
   go_wp2_with fail
   refine ret_two rfl rfl rfl rfl ⟨_, rfl, ?_, HX2.out⟩
   have h := own_lower HO.out (show w.heap.size ≤ w1.heap.size from HX1.out.sz)
   rw [HL0.out] at h
   exact h
  ·have HL0 := Lib.hid (show Wp.even ⟨W, F, R⟩ (l.map unB) l.length 0 = LA from HLA.out)
   go_wp2_with fail
   refine (HE.out w1 HX1.out).mono ?_
   rintro e w2 ⟨u, rfl, hown, hx2⟩
   have HO := Lib.hid hown
   have HX2 := Lib.hid (HX1.out.trans hx2)
   clear hown hx2
   go_wp2_with fail
   refine ret_two rfl rfl rfl rfl ⟨_, rfl, ?_, HX2.out⟩
   have h := own_lower HO.out (show w.heap.size ≤ w1.heap.size from HX1.out.sz)
   rw [HL0.out] at h
   exact h
 ·have hl0 : LA = [] := by rw [← hLA]; exact linA_none (.inl h0)
  subst hl0
  generalize chkK l W F R H = c at HC h0 ⊢
  obtain ⟨c1, c2⟩ := c
  simp only at h0 HC ⊢
  have hb : (c1 != 0) = true := bne_iff_ne.2 h0
  clear h0 hLA h
  go_enter Tryz.func15, Tryz.ntmps15
  go_wp2_with fail
  refine (HC.out _ ((Ext.refl w).alloc _)).mono ?_
  rintro e w1 ⟨rfl, hx1⟩
  have HX1 := Lib.hid (((Ext.refl w).alloc _).trans hx1)
  clear hx1
  go_wp2_with fail
  exact ret_two rfl rfl rfl rfl ⟨_, rfl, World.ownsRow_nil _ _ _ _, HX1.out⟩
set_option maxRecDepth 100000 in
set_option maxHeartbeats 2000000 in
theorem c_rCostA (v ve : Value) (l : List BxI) (es : List Int) (W F R H : Int) (w : World) (h : BxRow w v l) (hes : IRow w ve es) (hee : ∀ x ∈ es, -9223372036854775808 ≤ x ∧ x ≤ 9223372036854775807) (hel : es.length ≤ 1000000) (hn : l.length ≤ 64) :
  Calls Tryz.prog 17 #[v, .agg #[.int .i64 W, .int .i64 F, .int .i64 R, .int .i64 H], ve] w fun e w' => e = .returned (.tuple #[.int .i64 ((cstA l W F R H es).getD 0), .bool (cstA l W F R H es).isSome]) ∧ Ext w w' := by
 obtain ⟨p, cap, rfl, _, _⟩ := id h
 by_cases h0 : (chkK l W F R H).1 = 0
 ·obtain ⟨hok, hl, hsm⟩ := chk_ok h0
  have hlb : (l.map unB).length = l.length := List.length_map ..
  have hP : NRowP w p l.length cap (l.map unB) := ⟨hlb.symm, by rw [← hl]; exact h⟩
  rw [cstA_ok h0]
  exact c_rCost p l.length cap (l.map unB) W F R H ve es w hP hes hee hel hsm (by omega) hok
 ·have HC := Lib.hid (fun W' (h' : Ext w W') => c_rCheck16 p cap l W F R H W' (h.ext h'))
  have e0 : cstA l W F R H es = none := by unfold cstA; rw [if_neg h0]
  rw [e0]
  generalize chkK l W F R H = c at HC h0
  obtain ⟨c1, c2⟩ := c
  simp only at h0 HC
  have hb : (c1 != 0) = true := bne_iff_ne.2 h0
  clear h0 h hes
  go_enter Tryz.func17, Tryz.ntmps17
  go_wp2_with fail
  refine (HC.out _ ((Ext.refl w).alloc _)).mono ?_
  rintro e w1 ⟨rfl, hx1⟩
  have HX1 := Lib.hid (((Ext.refl w).alloc _).trans hx1)
  clear hx1
  go_wp2_with fail
  exact ret_two rfl rfl rfl rfl ⟨rfl, HX1.out⟩
set_option maxRecDepth 100000 in
set_option maxHeartbeats 2000000 in
theorem c_boxesEq (p q : Option Addr) (c d : Nat) (l : List BxI) (w : World) (ha : BxRow w (.slice p l.length c) l) (hb : BxRow w (.slice q l.length d) l) (hl : l.length ≤ 4096) :
  Calls Tryz.prog 19 #[.slice p l.length c, .slice q l.length d] w fun e w' => e = .returned (.bool true) ∧ Ext w w' := by
 obtain ⟨_, _, ea, _, hca⟩ := ha
 obtain ⟨_, _, eb, _, hcb⟩ := hb
 obtain ⟨rfl, -, -⟩ := Value.slice.inj ea
 obtain ⟨rfl, -, -⟩ := Value.slice.inj eb
 have HA := Lib.hid hca
 have HB := Lib.hid hcb
 have hlI : ((l.length : Nat) : Int) ≤ 4096 := by omega
 clear ea eb hca hcb
 go_enter Tryz.func19, Tryz.ntmps19
 go_wp2_with fail
 go_loopw [5] (fun iv W' => ∃ i : Nat, iv = .int .i64 (i : Nat) ∧ i ≤ l.length ∧ Hid (Ext w W')) (fun iv _ => l.length + 1 - (intOf iv).toNat)
 case atStart => exact ⟨0, rfl, Nat.zero_le _, Lib.hid (Ext.refl w)⟩
 case round =>
  obtain ⟨i, rfl, hi, HX⟩ := hrel
  obtain ⟨W', rfl⟩ : ∃ W', W' = wr := ⟨_, rfl⟩
  by_cases hil : i < l.length
  ·have hI : ((i : Nat) : Int) < (l.length : Nat) := by omega
   have hd : decide (i < l.length) = true := decide_eq_true hil
   have hne : l ≠ [] := by intro q; subst q; simp at hil
   obtain ⟨ga, oa, rfl, _, ha⟩ := HA.out hne
   obtain ⟨gb, ob, rfl, _, hb⟩ := HB.out hne
   have a0 := HX.out.cell (ha i hil).1
   have a1 := HX.out.cell (ha i hil).2.1
   have a2 := HX.out.cell (ha i hil).2.2.1
   have a3 := HX.out.cell (ha i hil).2.2.2
   have b0 := HX.out.cell (hb i hil).1
   have b1 := HX.out.cell (hb i hil).2.1
   have b2 := HX.out.cell (hb i hil).2.2.1
   have b3 := HX.out.cell (hb i hil).2.2.2
   generalize l[i] = x at a0 a1 a2 a3 b0 b1 b2 b3
   obtain ⟨xw, xb, xh, xm⟩ := x
   simp only at a0 a1 a2 a3 b0 b1 b2 b3
   have s0 : ∀ w', EOn (fun _ => True) W' w' → w'.cell? ⟨ga, oa + i * 4, none⟩ = _ := fun w' h => h.cell trivial a0
   have s1 : ∀ w', EOn (fun _ => True) W' w' → w'.cell? ⟨ga, oa + i * 4 + 1, none⟩ = _ := fun w' h => h.cell trivial a1
   have s2 : ∀ w', EOn (fun _ => True) W' w' → w'.cell? ⟨ga, oa + i * 4 + 2, none⟩ = _ := fun w' h => h.cell trivial a2
   have s3 : ∀ w', EOn (fun _ => True) W' w' → w'.cell? ⟨ga, oa + i * 4 + 3, none⟩ = _ := fun w' h => h.cell trivial a3
   have s4 : ∀ w', EOn (fun _ => True) W' w' → w'.cell? ⟨gb, ob + i * 4, none⟩ = _ := fun w' h => h.cell trivial b0
   have s5 : ∀ w', EOn (fun _ => True) W' w' → w'.cell? ⟨gb, ob + i * 4 + 1, none⟩ = _ := fun w' h => h.cell trivial b1
   have s6 : ∀ w', EOn (fun _ => True) W' w' → w'.cell? ⟨gb, ob + i * 4 + 2, none⟩ = _ := fun w' h => h.cell trivial b2
   have s7 : ∀ w', EOn (fun _ => True) W' w' → w'.cell? ⟨gb, ob + i * 4 + 3, none⟩ = _ := fun w' h => h.cell trivial b3
   clear ha hb hne a0 a1 a2 a3 b0 b1 b2 b3
   go_wp2_with fail
   refine wp_lex (fun _ => True) [true, true, true, true, true, true, true, true, true] (by kernel_rfl) (by kernel_rfl) ?_
   repeat first
    | refine wpG_move' ?_
    | refine wpG_assign' ?_
    | refine wpG_val' ?_
    | refine wpG_no' ?_
   refine wpG_end (fun w5 hx5 => ?_)
   have HX5 := Lib.hid (HX.out.trans hx5)
   clear s0 s1 s2 s3 s4 s5 s6 s7 hx5
   go_wp2_with fail
   refine gQ_normal ?_
   go_wp2_with fail
   exact ⟨⟨i + 1, by simp, by omega, HX5⟩, by simp only [intOf]; omega⟩
  ·have hI : ¬ ((i : Nat) : Int) < (l.length : Nat) := by omega
   have hd : decide (i < l.length) = false := decide_eq_false hil
   go_wp2_with fail
   exact ret_one rfl rfl rfl ⟨rfl, HX.out⟩
end Go.Proofs.YtlmkbldiicbejaaGreatDoor
end

section
namespace Go.Proofs.YtlmkbldiicbejaaGreatDoor
open Go.RowKit Go.Rp Go.Maps Go.Cl Go.Shelf Go.Gr Go.Ln

/-- A row of boxes behind an own row of boxes: the operation alone. -/
theorem apL_boxes {ops : Array Oper} {rest : List Oper} {o : Oper} {a : Act} {Q : Exit → Act → World → Prop} (hgd : o.guard = none) (s x : Operand) (ho : o.op = .call { callee := .builtin .append, args := #[s, x], argTypes := #[22, 22] })
  {B : Nat} {W : World} {v : Value} (hs : a.eval s = v) (hown : W.ownsRow B 45 4 v 0 []) (hB : B ≤ W.heap.size)
  (ve : Value) (l : List BxI) (hxv : a.eval x = ve) (he : BxRow W ve l) (hnl : ∀ m c, ve = .slice none m c → c = 0) (hn : l.length ≤ 100000)
  (h : ∀ v' w', w'.ownsRow B 45 4 v' l.length (bxW l) → W.grownBy w' v.ownBlock → wpList Tryz.prog ops Q rest (a.put o.dst v') w') : wpList Tryz.prog ops Q (o :: rest) a W := by
 obtain ⟨i0, hi0, hz0, hz1, hz3⟩ := info_parts Tryz.infoBx
 obtain ⟨p, c, e, hc, hrow⟩ := he
 by_cases hne : l = []
 ·subst hne
  cases p with
  | none =>
   obtain rfl : c = 0 := hnl _ _ e
   refine wpList_append_own_none hgd s x 22 ho B 45 i0 4 Tryz.underlying22 hi0 v 0 [] hs hown (by rw [hxv, e]; rfl) ?_
   exact h v W hown (World.grownBy.refl _ _)
  | some ad =>
   refine wpList_append_own_at _ hgd s x 22 ho B 45 i0 (.agg #[.int .i64 0, .int .i64 0, .int .i64 0, .bool false]) 4 32 Tryz.underlying22 hi0 hz0 hz1 hz3 rfl (by decide) v 0 [] hs hown ad 0 c [] (by rw [hxv, e]; rfl) rfl (fun j u hu => by simp at hu) (by intro u hu; simp at hu) (by unfold maxLen; omega) (by omega) hB ?_
   intro v' w' h2 h3 _ _
   exact h v' w' h2 h3
 ·obtain ⟨b, off, rfl, _, hc2⟩ := hrow hne
  refine wpList_append_own_at _ hgd s x 22 ho B 45 i0 (.agg #[.int .i64 0, .int .i64 0, .int .i64 0, .bool false]) 4 32 Tryz.underlying22 hi0 hz0 hz1 hz3 rfl (by decide) v 0 [] hs hown ⟨b, off, none⟩ l.length c (bxW l) (by rw [hxv, e]) (bxW_len l) (fun j u hu => ?_) (by
   intro u hu
   obtain ⟨y, _, hy⟩ := List.mem_flatMap.1 hu
   simp at hy
   rcases hy with rfl | rfl | rfl | rfl <;> rfl) (by unfold maxLen; omega) (by omega) hB ?_
  ·obtain ⟨hj, e2⟩ := List.getElem?_eq_some_iff.1 hu
   rw [bxW_len] at hj
   obtain ⟨q, r, hr, rfl⟩ : ∃ q r, r < 4 ∧ j = q * 4 + r := ⟨j / 4, j % 4, by omega, by omega⟩
   have hq : q < l.length := by omega
   obtain ⟨g0, g1, g2, g3⟩ := bxW_get l q hq
   obtain ⟨k0, k1, k2, k3⟩ := hc2 q hq
   have h4 : r = 0 ∨ r = 1 ∨ r = 2 ∨ r = 3 := by omega
   rw [Addr.add_lit, ← hu]
   rcases h4 with rfl | rfl | rfl | rfl
   ·exact k0.trans g0.symm
   ·exact k1.trans g1.symm
   ·exact k2.trans g2.symm
   ·exact k3.trans g3.symm
  ·intro v' w' h2 h3 _ _
   rw [Nat.zero_add, List.nil_append] at h2
   exact h v' w' h2 h3
set_option maxRecDepth 100000 in
set_option maxHeartbeats 4000000 in
theorem c_LinesLaw (v ve : Value) (l : List BxI) (W F R H : Int) (es : List Int) (w : World) (hT : TabsW w) (h : BxRow w v l) (he : IRow w ve es) (hee : ∀ x ∈ es, -9223372036854775808 ≤ x ∧ x ≤ 9223372036854775807) (hnv : ∀ m c, v = .slice none m c → c = 0) (hne : ∀ m c, ve = .slice none m c → c = 0) :
  Calls Tryz.prog 4 #[v, .agg #[.int .i64 W, .int .i64 F, .int .i64 R, .int .i64 H], ve] w fun e w' => e = .returned (.bool true) ∧ Ext w w' := by
 have HL := Lib.hid (fun W' (h' : Ext w W') => c_live16 W' (hT.ext h'))
 have HB := Lib.hid h
 have HE := Lib.hid (And.intro he hee)
 have HNV := Lib.hid hnv
 have HNE := Lib.hid hne
 obtain ⟨p, cap, rfl, _, _⟩ := id h
 obtain ⟨ep, ec, rfl, _, _⟩ := id he
 clear hT h he hee hnv hne
 by_cases hb1 : (40 : Int) < (l.length : Nat)
 ·go_enter Tryz.func4, Tryz.ntmps4
  go_wp2_with fail
  refine (HL.out _ ((Ext.refl w).alloc _)).mono ?_
  rintro e wl ⟨rfl, hxl⟩
  have HXL := Lib.hid (((Ext.refl w).alloc _).trans hxl)
  clear hxl
  go_wp2_with fail
  exact ret_one rfl rfl rfl ⟨rfl, HXL.out⟩
 ·by_cases hb2 : (100 : Int) < (es.length : Nat)
  ·go_enter Tryz.func4, Tryz.ntmps4
   go_wp2_with fail
   refine (HL.out _ ((Ext.refl w).alloc _)).mono ?_
   rintro e wl ⟨rfl, hxl⟩
   have HXL := Lib.hid (((Ext.refl w).alloc _).trans hxl)
   clear hxl
   go_wp2_with fail
   exact ret_one rfl rfl rfl ⟨rfl, HXL.out⟩
  ·have hl40 : l.length ≤ 40 := by omega
   have he100 : es.length ≤ 100 := by omega
   have HLN := Lib.hid (fun v W' (h' : BxRow W' v l) => c_LinesA v l W F R H W' h' (by omega))
   have HRL := Lib.hid (fun W' (h' : Ext w W') => c_rLinesA _ l W F R H W' (HB.out.ext h') (by omega))
   have HCS := Lib.hid (fun v ve W' (h' : BxRow W' v l) (h2 : IRow W' ve es) => c_CostA v ve l es W F R H W' h' h2 HE.out.2 (by omega) (by omega))
   have HRC := Lib.hid (fun W' (h' : Ext w W') => c_rCostA _ _ l es W F R H W' (HB.out.ext h') (HE.out.1.ext h') HE.out.2 (by omega) (by omega))
   have hla := linA_len l W F R H
   generalize linA l W F R H = la at HLN HRL hla
   generalize cstA l W F R H es = cs at HCS HRC
   generalize (chkK l W F R H).1 = c0 at HLN HRL
   go_enter Tryz.func4, Tryz.ntmps4
   go_wp2_with (at_builtin; refine Hid.out ?_)
   have hx0 := ((Ext.refl w).alloc (.cells #[.int .i64 W, .int .i64 F, .int .i64 R, .int .i64 H] 24)).alloc (.cells #[] 45)
   have hb := ((Ext.refl (w.alloc (.cells #[.int .i64 W, .int .i64 F, .int .i64 R, .int .i64 H] 24))).alloc (.cells #[] 45)).blk (World.alloc_heap_new w (.cells #[.int .i64 W, .int .i64 F, .int .i64 R, .int .i64 H] 24))
   have hoe : ((w.alloc (.cells #[.int .i64 W, .int .i64 F, .int .i64 R, .int .i64 H] 24)).alloc (.cells #[] 45)).ownsRow (w.heap.size + 1) 45 4 (.slice (some ⟨w.heap.size + 1, 0, none⟩) 0 0) 0 [] := by
    have h1 := World.alloc_heap_new (w.alloc (.cells #[.int .i64 W, .int .i64 F, .int .i64 R, .int .i64 H] 24)) (.cells #[] 45)
    rw [World.size_alloc] at h1
    exact ⟨rfl, .inr ⟨w.heap.size + 1, 0, #[], rfl, Nat.le_refl _, h1, Nat.le_refl _, Nat.zero_le _, rfl, rfl⟩⟩
   have hsz : w.heap.size + 1 ≤ ((w.alloc (.cells #[.int .i64 W, .int .i64 F, .int .i64 R, .int .i64 H] 24)).alloc (.cells #[] 45)).heap.size := by rw [World.size_alloc, World.size_alloc]; omega
   generalize (w.alloc (.cells #[.int .i64 W, .int .i64 F, .int .i64 R, .int .i64 H] 24)).alloc (.cells #[] 45) = w1 at hx0 hb hoe hsz ⊢
   obtain ⟨tb, htb⟩ : ∃ tb, w.heap.size = tb := ⟨_, rfl⟩
   rw [htb] at hb hoe hsz ⊢
   refine apL_boxes rfl (.tmp 25) (.tmp 26) rfl (B := tb + 1) rfl hoe hsz _ l rfl (HB.out.ext hx0) HNV.out (by omega) (fun v2 w2 g1 g2 => ?_)
   have hX2 : Ext w w2 := Below.grown hx0 g2 hx0.sz (fun k e => by have h9 : tb + 1 ≤ k := (hoe.lt k e).1; rw [htb]; omega)
   have hb2 : w2.heap[tb]? = _ := (g2.block tb (blk_lt hb) (fun e => by have h1 : tb = tb + 1 := Option.some.inj e; omega)).trans hb
   have HX2 := Lib.hid hX2
   have HBW := Lib.hid hb2
   have HXR := Lib.hid (BxRow.of_own g1)
   obtain ⟨px, cx, rfl⟩ := own_slice g1
   clear hx0 hb hoe hsz g1 g2 hX2 hb2
   have m0 : w2.cell? ⟨tb, 0, none⟩ = some (.int .i64 W) := (cell_blk HBW.out 0).trans rfl
   have m1 : w2.cell? ⟨tb, 1, none⟩ = some (.int .i64 F) := (cell_blk HBW.out 1).trans rfl
   have m2 : w2.cell? ⟨tb, 2, none⟩ = some (.int .i64 R) := (cell_blk HBW.out 2).trans rfl
   have m3 : w2.cell? ⟨tb, 3, none⟩ = some (.int .i64 H) := (cell_blk HBW.out 3).trans rfl
   go_wp2_with fail
   refine (HLN.out _ w2 HXR.out).mono ?_
   rintro e w3 ⟨u, rfl, hown, hx3⟩
   obtain ⟨pa, ca, rfl⟩ := own_slice hown
   have HX3 := Lib.hid hx3
   have HOA := Lib.hid (IRow.of_nat hown)
   clear hown hx3 m0 m1 m2 m3
   have m0 : w3.cell? ⟨tb, 0, none⟩ = some (.int .i64 W) := (cell_blk (HX3.out.blk HBW.out) 0).trans rfl
   have m1 : w3.cell? ⟨tb, 1, none⟩ = some (.int .i64 F) := (cell_blk (HX3.out.blk HBW.out) 1).trans rfl
   have m2 : w3.cell? ⟨tb, 2, none⟩ = some (.int .i64 R) := (cell_blk (HX3.out.blk HBW.out) 2).trans rfl
   have m3 : w3.cell? ⟨tb, 3, none⟩ = some (.int .i64 H) := (cell_blk (HX3.out.blk HBW.out) 3).trans rfl
   go_wp2_with fail
   refine (HRL.out w3 (HX2.out.trans HX3.out)).mono ?_
   rintro e w4 ⟨u, rfl, hown, hx4⟩
   obtain ⟨pb, cb, rfl⟩ := own_slice hown
   have HX4 := Lib.hid (HX3.out.trans hx4)
   have HOB := Lib.hid (IRow.of_nat hown)
   replace HOA := Lib.hid (HOA.out.ext hx4)
   clear hown hx4 m0 m1 m2 m3
   have m0 : w4.cell? ⟨tb, 0, none⟩ = some (.int .i64 W) := (cell_blk (HX4.out.blk HBW.out) 0).trans rfl
   have m1 : w4.cell? ⟨tb, 1, none⟩ = some (.int .i64 F) := (cell_blk (HX4.out.blk HBW.out) 1).trans rfl
   have m2 : w4.cell? ⟨tb, 2, none⟩ = some (.int .i64 R) := (cell_blk (HX4.out.blk HBW.out) 2).trans rfl
   have m3 : w4.cell? ⟨tb, 3, none⟩ = some (.int .i64 H) := (cell_blk (HX4.out.blk HBW.out) 3).trans rfl
   go_wp2_with fail
   obtain ⟨Z, hZ⟩ : ∃ Z, w4.heap.size = Z := ⟨_, rfl⟩
   have HZ := Lib.hid hZ
   have hzt : tb < Z := by rw [← hZ]; exact blk_lt (HX4.out.blk HBW.out)
   have s0 : ∀ w', EOn (fun a => a.block < Z) w4 w' → w'.cell? ⟨tb, 0, none⟩ = some (.int .i64 W) := fun w' h => h.cell hzt m0
   have s1 : ∀ w', EOn (fun a => a.block < Z) w4 w' → w'.cell? ⟨tb, 1, none⟩ = some (.int .i64 F) := fun w' h => h.cell hzt m1
   have s2 : ∀ w', EOn (fun a => a.block < Z) w4 w' → w'.cell? ⟨tb, 2, none⟩ = some (.int .i64 R) := fun w' h => h.cell hzt m2
   have s3 : ∀ w', EOn (fun a => a.block < Z) w4 w' → w'.cell? ⟨tb, 3, none⟩ = some (.int .i64 H) := fun w' h => h.cell hzt m3
   clear m0 m1 m2 m3 hZ hzt
   go_wp2_with fail
   refine wp_perm ((fun a => a.block < Z)) [0, 1, 3, 2, 4, 5, 6, 7, 8, 9, 10] [true, true, true, false, false, false, true, true, true, true] (by kernel_rfl) (by kernel_rfl) (by simp only [List.map_cons, List.map_nil, nth]; rfl) ?_
   repeat first
    | refine wpG_move' ?_
    | refine wpG_assign' ?_
    | refine wpG_val' ?_
    | refine wpG_no' ?_
   refine wpG_do (by rfl) (fun w5 hx5 K hK => ?_)
   go_wp2_with fail
   have hxa := (Ext.refl w5).alloc (.cells #[] 3)
   have hoe := own_empty (W := w5) (B := Z) (by rw [← HZ.out]; exact hx5.sz)
   generalize w5.alloc (.cells #[] 3) = w6 at hxa hoe ⊢
   generalize w5.heap.size = nb at hoe ⊢
   have HX6 := Lib.hid (hx5.trans hxa)
   refine ⟨EOn.of_ext hxa, ?_⟩
   have HOE := Lib.hid hoe
   clear hxa hoe hx5 s0 s1 s2 s3
   refine wpG_do (by rfl) (fun w7 hx7 K hK => ?_)
   have HOE7 := Lib.hid (ownsRow_ext HOE.out hx7)
   have HX7 := Lib.hid (HX6.out.trans hx7)
   clear hx7
   refine ap_ints rfl (fun a w h => by first | cases h.1 | (obtain ⟨_, e, _⟩ := h; cases e)) (.tmp 43) (.tmp 44) rfl (B := Z) (n := 0) (xs := []) rfl HOE7.out (by rw [← HZ.out]; exact HX7.out.sz) (.slice ep es.length ec) es rfl (HE.out.1.ext (HX2.out.trans (HX4.out.trans HX7.out))) HNE.out (by omega) (fun v8 w8 g1 g2 => hK _ _ ⟨EOn.of_grown g2 (fun ad h1 _ e => by
    have h2 := (HOE7.out.lt _ e.symm).1
    have h3 : ad.block < Z := h1
    omega), ?_⟩)
   have HX8 := Lib.hid (show Ext w4 w8 from Below.grown HX7.out g2 HX7.out.sz (fun k e => by rw [HZ.out]; exact (HOE7.out.lt k e).1))
   rw [Nat.zero_add, List.nil_append] at g1
   have HRI := Lib.hid (show IRow w8 v8 es from IRow.of_own g1)
   obtain ⟨p8, c8, rfl⟩ := own_slice g1
   clear g1 g2 hK
   refine wpG_do (by rfl) (fun w9 hx9 K hK => ?_)
   have HX9 := Lib.hid (HX8.out.trans hx9)
   have HRI9 := Lib.hid (HRI.out.ext hx9)
   clear hx9
   go_wp2_with fail
   refine (HCS.out _ _ w9 (HXR.out.ext (HX4.out.trans HX9.out)) HRI9.out).mono ?_
   rintro e w10 ⟨rfl, hx10⟩
   refine hK _ _ ⟨EOn.of_ext hx10, ?_⟩
   have HX10 := Lib.hid (HX9.out.trans hx10)
   clear hK hx10
   repeat first
    | refine wpG_move' ?_
    | refine wpG_assign' ?_
    | refine wpG_val' ?_
    | refine wpG_no' ?_
   refine wpG_end (fun w11 hx11 => ?_)
   have HX11 := Lib.hid (HX4.out.trans (HX10.out.trans hx11))
   replace HOA := Lib.hid (HOA.out.ext (HX10.out.trans hx11))
   replace HOB := Lib.hid (HOB.out.ext (HX10.out.trans hx11))
   clear hx11
   have m0 : w11.cell? ⟨tb, 0, none⟩ = some (.int .i64 W) := (cell_blk (HX11.out.blk HBW.out) 0).trans rfl
   have m1 : w11.cell? ⟨tb, 1, none⟩ = some (.int .i64 F) := (cell_blk (HX11.out.blk HBW.out) 1).trans rfl
   have m2 : w11.cell? ⟨tb, 2, none⟩ = some (.int .i64 R) := (cell_blk (HX11.out.blk HBW.out) 2).trans rfl
   have m3 : w11.cell? ⟨tb, 3, none⟩ = some (.int .i64 H) := (cell_blk (HX11.out.blk HBW.out) 3).trans rfl
   go_wp2_with fail
   refine gQ_normal ?_
   go_wp2_with fail
   refine (HRC.out w11 (HX2.out.trans HX11.out)).mono ?_
   rintro e w12 ⟨rfl, hx12⟩
   have HX12 := Lib.hid (HX11.out.trans hx12)
   replace HOA := Lib.hid (HOA.out.ext hx12)
   replace HOB := Lib.hid (HOB.out.ext hx12)
   clear hx12 m0 m1 m2 m3
   generalize cs.getD 0 = cg
   generalize cs.isSome = cb2
   have hcg : (cg == cg) = true := by simp
   have hcc : (cb2 == cb2) = true := by simp
   cases cb2
   ·have HCI := Lib.hid (c_ints pa pb ca cb (la.map Int.ofNat) (la.map Int.ofNat) w12 (by rw [List.length_map]; exact HOA.out) (by rw [List.length_map]; exact HOB.out) (by rw [List.length_map]; omega))
    rw [decide_eq_true rfl, List.length_map] at HCI
    go_wp2_with fail
    refine HCI.out.mono ?_
    rintro e w13 ⟨rfl, hx13⟩
    have HX13 := Lib.hid (HX12.out.trans hx13)
    clear hx13
    go_wp2_with fail
    refine (c_num16 c0 w13).mono ?_
    rintro e w13 ⟨rfl, rfl⟩
    go_wp2_with fail
    refine (c_boxesEq px p cx cap l w13 (HXR.out.ext HX13.out) (HB.out.ext (HX2.out.trans HX13.out)) (by omega)).mono ?_
    rintro e w14 ⟨rfl, hx14⟩
    have HX14 := Lib.hid ((HX2.out.trans HX13.out).trans hx14)
    clear hx14
    go_wp2_with fail
    refine (HL.out _ (HX14.out)).mono ?_
    rintro e wl ⟨rfl, hxl⟩
    have HXL := Lib.hid ((HX14.out).trans hxl)
    clear hxl
    go_wp2_with fail
    exact ret_one rfl rfl rfl ⟨rfl, HXL.out⟩
   ·have HCI := Lib.hid (c_ints pa pb ca cb (la.map Int.ofNat) (la.map Int.ofNat) w12 (by rw [List.length_map]; exact HOA.out) (by rw [List.length_map]; exact HOB.out) (by rw [List.length_map]; omega))
    rw [decide_eq_true rfl, List.length_map] at HCI
    go_wp2_with fail
    refine HCI.out.mono ?_
    rintro e w13 ⟨rfl, hx13⟩
    have HX13 := Lib.hid (HX12.out.trans hx13)
    clear hx13
    go_wp2_with fail
    refine (c_num16 c0 w13).mono ?_
    rintro e w13 ⟨rfl, rfl⟩
    go_wp2_with fail
    refine (c_boxesEq px p cx cap l w13 (HXR.out.ext HX13.out) (HB.out.ext (HX2.out.trans HX13.out)) (by omega)).mono ?_
    rintro e w14 ⟨rfl, hx14⟩
    have HX14 := Lib.hid ((HX2.out.trans HX13.out).trans hx14)
    clear hx14
    go_wp2_with fail
    refine (HL.out _ (HX14.out)).mono ?_
    rintro e wl ⟨rfl, hxl⟩
    have HXL := Lib.hid ((HX14.out).trans hxl)
    clear hxl
    go_wp2_with fail
    exact ret_one rfl rfl rfl ⟨rfl, HXL.out⟩
end Go.Proofs.YtlmkbldiicbejaaGreatDoor
end
