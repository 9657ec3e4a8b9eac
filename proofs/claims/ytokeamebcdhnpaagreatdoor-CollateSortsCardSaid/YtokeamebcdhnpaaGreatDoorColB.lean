/-
 The weights, out of their text.
-/
import Derived.Test.YtokeamebcdhnpaaGreatDoorColA
import Derived.Test.YtokeamebcdhnpaaGreatDoorShelfs
import Derived.Test.YtokeamebcdhnpaaGreatDoorMapsR
import Derived.StringKeys
namespace Go.Proofs.YtokeamebcdhnpaaGreatDoor
open Go.RowKit Go.Rp Go.Shelf Go.Maps Go.Cl

attribute [local go_sem] run_makeMap
/-- The library's tables, and one number of its own. -/
structure TabsC (w : World) : Prop where
 t : Tabs w
 m : ∃ m, w.cell? ⟨0, 0, none⟩ = some (.int .i64 m)
theorem TabsC.ext {w w' : World} (h : TabsC w) (hx : Ext w w') : TabsC w' := ⟨h.t.ext hx, h.m.imp fun _ h => hx.cell h⟩
theorem Ext.drews (w : World) (n : Nat) : Ext w (w.drewN n) := ⟨rfl, rfl, rfl, Nat.le_refl _, fun _ _ => rfl⟩
theorem c_TrimW (w : World) (hT : TabsC w) : Calls Tryz.prog 72 #[.string textW] w fun e w' => e = .returned (.string ⟨(Lib.trimSpace textW.data.toList).toArray⟩) ∧ Ext w w' := by
 refine (Tryz.strings_TrimSpace textW w (by have := textW_small.1; omega) (fun j b hb => textW_small.2 b (List.mem_of_getElem? hb)) hT.t.sp).mono ?_
 rintro e w' ⟨rfl, rfl⟩
 exact ⟨rfl, (bytes_of w 5 textW).1⟩
theorem split_bytes (s : List UInt8) (c : UInt8) : (Lib.splitB ⟨#[c]⟩ 0 (Lib.countB ⟨s.toArray⟩ ⟨#[c]⟩) ⟨s.toArray⟩).map Value.string = (splitC c [] s).map fun l => Value.string ⟨l.toArray⟩ := by
 have h1 := Lib.splitB_data ⟨#[c]⟩ 0 (Lib.countB ⟨s.toArray⟩ ⟨#[c]⟩) ⟨s.toArray⟩
 have h2 := split_C c s.length s (Nat.le_refl _)
 have h3 : Lib.splitK [c] 0 (Lib.count s [c]) s = splitC c [] s := h2
 rw [show Lib.splitK (⟨#[c]⟩ : ByteArray).data.toList 0 (Lib.countB ⟨s.toArray⟩ ⟨#[c]⟩) (⟨s.toArray⟩ : ByteArray).data.toList = Lib.splitK [c] 0 (Lib.count s [c]) s from by simp [Lib.countB], h3] at h1
 rw [← h1, List.map_map]
 refine List.map_congr_left fun x _ => ?_
 simp
/-- Cut at a byte. -/
theorem c_Split (s : List UInt8) (c : UInt8) (w : World) (hT : TabsC w) (hs : s.length ≤ 1000000) :
  Calls Tryz.prog 71 #[.string ⟨s.toArray⟩, .string ⟨#[c]⟩] w fun e w' => e = .returned (.slice (some ⟨w.heap.size, 0, none⟩) (splitC c [] s).length (splitC c [] s).length) ∧ w' = w.alloc (.cells ((splitC c [] s).map fun l => Value.string ⟨l.toArray⟩).toArray 9) := by
 obtain ⟨m, hm⟩ := hT.m
 have hb := split_bytes s c
 have hl : Lib.countB ⟨s.toArray⟩ ⟨#[c]⟩ + 1 = (splitC c [] s).length := by
  have h1 := Lib.splitB_all ⟨#[c]⟩ (Nat.le_refl 1) 0 _ ⟨s.toArray⟩ rfl
  have h2 := congrArg List.length hb
  rw [List.length_map, List.length_map] at h2
  omega
 refine (Tryz.strings_Split ⟨s.toArray⟩ ⟨#[c]⟩ m w (by show s.toArray.size < _; simp; omega) hm (Nat.le_refl 1)).mono ?_
 rintro e w' ⟨rfl, rfl⟩
 rw [hl, hb]
 exact ⟨rfl, rfl⟩
theorem c_Cut (s : List UInt8) (w : World) (hT : TabsC w) (hs : s.length ≤ 1000000) :
  Calls Tryz.prog 73 #[.string ⟨s.toArray⟩, .string ⟨#[59]⟩] w fun e w' => ∃ b, e = .returned (.tuple #[.string ⟨(cutC 59 [] s).1.toArray⟩, .string ⟨(cutC 59 [] s).2.toArray⟩, .bool b]) ∧ Ext w w' := by
 obtain ⟨m, hm⟩ := hT.m
 refine (Tryz.strings_Cut ⟨s.toArray⟩ ⟨#[59]⟩ m w (by show s.toArray.size < _; simp; omega) hm).mono ?_
 rintro e w' ⟨rfl, n, rfl⟩
 have h := cut_C 59 s
 refine ⟨(Lib.cut s [59]).2.2, ?_, Ext.drews w n⟩
 have e1 : (⟨s.toArray⟩ : ByteArray).data.toList = s := by simp
 rw [e1, ← h.1, ← h.2]
theorem c_FieldsC (x : List UInt8) (w : World) (hT : TabsC w) (hl : x.length ≤ 1000) (ha : ∀ c ∈ x, c.toNat < 128) :
  Calls Tryz.prog 74 #[.string ⟨x.toArray⟩] w fun e w' => e = .returned (.slice (some ⟨w.heap.size, 0, none⟩) (Lib.fields x).length (Lib.fields x).length) ∧ w' = w.alloc (.cells ((Lib.fields x).map fun l => Value.string ⟨l.toArray⟩).toArray 9) := by
 have e1 : (⟨x.toArray⟩ : ByteArray).data.toList = x := by simp
 refine (Tryz.strings_Fields ⟨x.toArray⟩ w (by show x.toArray.size < _; simp; omega) (fun j b hb => ha b (by rw [e1] at hb; exact List.mem_of_getElem? hb)) hT.t.sp).mono ?_
 rintro e w' ⟨rfl, rfl⟩
 rw [e1]
 exact ⟨rfl, rfl⟩
theorem c_numX (b : Nat) (hb : b = 10 ∨ b = 16) (x : List UInt8) (w : World) (h : NumW b x) :
  Calls Tryz.prog 75 #[.string ⟨x.toArray⟩, .int .i64 (b : Nat)] w fun e w' => e = .returned (.int .i64 (numV b x : Nat)) ∧ Ext w w' := by
 have e1 : (⟨x.toArray⟩ : ByteArray).data.toList = x := by simp
 have e2 : (⟨x.toArray⟩ : ByteArray).size = x.length := by rw [← len_eqC, e1]
 rcases hb with rfl | rfl
 ·have := c_num10 ⟨x.toArray⟩ w (by rw [e2]; exact h.1) (by rw [e2]; exact h.2.1) (by rw [e1]; exact h.2.2)
  rw [e1] at this
  exact this
 ·have := c_num16 ⟨x.toArray⟩ w (by rw [e2]; exact h.1) (by rw [e2]; exact h.2.1) (by rw [e1]; exact h.2.2)
  rw [e1] at this
  exact this
/-- The cells of a row of elements. -/
def elW (l : List El) : List Value := l.flatMap fun e => [.int .i64 (e.1 : Nat), .int .i64 (e.2.1 : Nat), .int .i64 (e.2.2 : Nat)]
/-- A map that holds a book. -/
def BMap (n : Nat) (W : World) (m : Nat) (kv : List (Value × Value)) (E : Book) : Prop :=
 MapIs W m kv ∧ kv.length = E.length ∧ ∀ i (h : i < kv.length) (h' : i < E.length), ∃ v, kv[i] = (.string ⟨E[i].1.toArray⟩, v) ∧ W.ownsRow n 59 3 v E[i].2.length (elW E[i].2)
theorem BMap.keys {n : Nat} {W : World} {m : Nat} {kv : List (Value × Value)} {E : Book} (h : BMap n W m kv E) (hE : ∀ e ∈ E, e.1.length ≤ 100000) : ∀ p ∈ kv, ∃ l, keyOf Tryz.prog 9 p.1 = some l := by
 intro p hp
 obtain ⟨i, hi, rfl⟩ := List.mem_iff_getElem.1 hp
 have hi' : i < E.length := by rw [← h.2.1]; exact hi
 obtain ⟨v, e, _⟩ := h.2.2 i hi hi'
 have := hE _ (List.getElem_mem hi')
 rw [e]
 exact ⟨_, Go.WideMaps.keyOf_string_mk Tryz.underlying9 (by show E[i].1.toArray.size ≤ _; rw [List.size_toArray]; unfold maxLen; omega)⟩
theorem str_inj {a b : List UInt8} (h : Value.string ⟨a.toArray⟩ = .string ⟨b.toArray⟩) : a = b := by
 have h1 : (⟨a.toArray⟩ : ByteArray) = ⟨b.toArray⟩ := Value.string.inj h
 have := congrArg (fun x : ByteArray => x.data.toList) h1
 simpa using this
theorem BMap.key_ne {n : Nat} {W : World} {m : Nat} {kv : List (Value × Value)} {E : Book} (h : BMap n W m kv E) {k : List UInt8} (hE : ∀ e ∈ E, e.1 ≠ k) : ∀ p ∈ kv, p.1 ≠ .string ⟨k.toArray⟩ := by
 intro p hp e2
 obtain ⟨i, hi, rfl⟩ := List.mem_iff_getElem.1 hp
 have hi' : i < E.length := by rw [← h.2.1]; exact hi
 obtain ⟨v, e, _⟩ := h.2.2 i hi hi'
 rw [e] at e2
 exact hE _ (List.getElem_mem hi') (str_inj e2)
theorem BMap.snoc {n n' : Nat} {W W' : World} {m : Nat} {kv : List (Value × Value)} {E : Book} (h : BMap n W m kv E) (hg : W.grownBy W' (some m)) (hn : n ≤ n') {k : List UInt8} {l : List El} {v : Value} (hm : MapIs W' m (kv ++ [(.string ⟨k.toArray⟩, v)])) (hr : W'.ownsRow n' 59 3 v l.length (elW l)) : BMap n W' m (kv ++ [(.string ⟨k.toArray⟩, v)]) (E ++ [(k, l)]) := by
 refine ⟨hm, by simp [h.2.1], fun i h1 h2 => ?_⟩
 by_cases hi : i < kv.length
 ·have hi' : i < E.length := by rw [← h.2.1]; exact hi
  obtain ⟨u, e, hu⟩ := h.2.2 i hi hi'
  rw [List.getElem_append_left hi, List.getElem_append_left hi']
  exact ⟨u, e, hu.kept hg (.inr (row_not_map hu h.1))⟩
 ·have : i = kv.length := by simp at h1; omega
  subst this
  refine ⟨v, by simp [h.2.1], ?_⟩
  have : (E ++ [(k, l)])[kv.length] = (k, l) := by simp [h.2.1]
  rw [this]
  exact own_lower hr hn
theorem BMap.ext {n : Nat} {W W' : World} {m : Nat} {kv : List (Value × Value)} {E : Book} (h : BMap n W m kv E) (hx : Ext W W') : BMap n W' m kv E :=
 ⟨h.1.ext hx, h.2.1, fun i h1 h2 => let ⟨v, e, hr⟩ := h.2.2 i h1 h2; ⟨v, e, ownsRow_ext hr hx⟩⟩
theorem Tryz.infoEl : (Tryz.prog.info? 59).map (fun i => (i.zero, i.size, i.bytes)) = some (some (.agg #[.int .i64 0, .int .i64 0, .int .i64 0]), 3, 24) := by kernel_rfl
set_option maxRecDepth 100000 in
set_option maxHeartbeats 4000000 in
theorem c_weights (w : World) (hT : TabsC w) :
  Calls Tryz.prog 51 #[] w fun e w' => ∃ m kv, e = .returned (.tuple #[.map (some m), .int .i64 (mostC bookP : Nat)]) ∧ BMap w.heap.size w' m kv bookP ∧ Ext w w' := by
 have hHI : Hid (∃ i0, Tryz.prog.info? 21 = some i0 ∧ i0.zero = some (.int .i32 0) ∧ i0.size = 1 ∧ i0.bytes = 4) := by
  obtain ⟨i0, hi, hz0, hz1, hz2⟩ := info_parts Tryz.infoI
  exact ⟨i0, hi, hz0, hz1, hz2⟩
 have hHE : Hid (∃ i0, Tryz.prog.info? 59 = some i0 ∧ i0.zero = some (.agg #[.int .i64 0, .int .i64 0, .int .i64 0]) ∧ i0.size = 3 ∧ i0.bytes = 24) := by
  obtain ⟨i0, hi, hz0, hz1, hz2⟩ := info_parts Tryz.infoEl
  exact ⟨i0, hi, hz0, hz1, hz2⟩
 go_enter Tryz.func51, Tryz.ntmps51
 go_wp2_with fail
 refine calls_str (s' := textW) (by kernel_rfl) ?_
 refine (c_TrimW _ (hT.ext ((Ext.refl w).alloc _))).mono ?_
 rintro e w1 ⟨rfl, hx1⟩
 have hM1 := (MapIs.new w).ext hx1
 have hx01 : Ext w w1 := ((Ext.refl w).alloc _).trans hx1
 obtain ⟨mb, hmb⟩ : ∃ mb, w.heap.size = mb := ⟨_, rfl⟩
 have HWN := Lib.hid hmb
 rw [hmb] at hM1 ⊢
 have HL := Lib.hid linesP_ok
 have HSP := Lib.hid (c_Split (Lib.trimSpace textW.data.toList) 10 w1 (hT.ext hx01) (by
  have h1 := textW_small.1
  have h2 : (Lib.trimSpace textW.data.toList).length ≤ textW.data.toList.length := by
   unfold Lib.trimSpace
   rw [List.length_reverse]
   refine Nat.le_trans (List.dropWhile_sublist _).length_le ?_
   rw [List.length_reverse]
   exact (List.dropWhile_sublist _).length_le
  rw [len_eqC] at h2
  omega))
 have HP := Lib.hid (show splitC 10 [] (Lib.trimSpace textW.data.toList) = linesP from rfl)
 have HBK := Lib.hid (show bookP = linesP.map entC from rfl)
 rw [HP.out] at HSP
 generalize Lib.trimSpace textW.data.toList = t0 at HSP HP ⊢
 obtain ⟨BK, hBK⟩ : ∃ BK, bookP = BK := ⟨_, rfl⟩
 rw [hBK] at HBK HL
 have HBP := Lib.hid hBK
 clear hBK
 generalize linesP = L at HSP HL HBK
 clear hmb hx1 HP
 go_wp2_with fail
 refine HSP.out.mono ?_
 rintro e w2 ⟨rfl, rfl⟩
 clear HSP
 have hx2 := (Ext.refl w1).alloc (.cells (L.map fun l => Value.string ⟨l.toArray⟩).toArray 9)
 have hbk := World.alloc_heap_new w1 (.cells (L.map fun l => Value.string ⟨l.toArray⟩).toArray 9)
 generalize w1.alloc (.cells (L.map fun l => Value.string ⟨l.toArray⟩).toArray 9) = W0 at hx2 hbk ⊢
 have hM2 := hM1.ext hx2
 have HX2 := Lib.hid (hx01.trans hx2)
 have hlm : mb < w1.heap.size := hM1.lt
 generalize w1.heap.size = lb at hbk hlm ⊢
 clear hM1 hx01 hx2
 have HBL := Lib.hid hbk
 clear hbk
 go_wp2_with fail
 go_loopw [3, 21] (fun mv iv W => ∃ (i n : Nat) (kv : List (Value × Value)), iv = .int .i64 (i : Nat) ∧ i ≤ L.length ∧ mv = .int .i64 (n : Nat) ∧ Hid (n = mostC ((L.take i).map entC)) ∧ Hid (BMap mb W mb kv ((L.take i).map entC)) ∧ Hid (W0.grownBy W (some mb))) (fun _ iv _ => L.length + 1 - (intOf iv).toNat)
 case atStart => exact ⟨0, 0, [], rfl, by omega, rfl, Lib.hid rfl, Lib.hid ⟨hM2, rfl, fun i h => by simp at h⟩, Lib.hid (World.grownBy.refl _ _)⟩
 case round =>
  obtain ⟨i, n, kv, rfl, hi, rfl, HN, HB, HG⟩ := hrel
  obtain ⟨Wi, rfl⟩ : ∃ Wi, Wi = wr := ⟨wr, rfl⟩
  have HXW := Lib.hid (show Ext w Wi from Below.grown HX2.out HG.out HX2.out.sz (fun k e => by cases e; exact Nat.le_of_eq HWN.out))
  by_cases hlt : i < L.length
  ·have hlI : ((i : Nat) : Int) < (L.length : Nat) := by omega
   have hd : decide (i < L.length) = true := decide_eq_true hlt
   obtain ⟨l, hl⟩ : ∃ l, L[i] = l := ⟨_, rfl⟩
   have hc : Wi.cell? ⟨lb, i, none⟩ = some (.string ⟨l.toArray⟩) := by
    rw [cell_blk ((HG.out.block lb (blk_lt HBL.out) (by simpa using fun e : lb = mb => by omega)).trans HBL.out) i]
    simp [hlt, hl]
   have HOK := Lib.hid (HL.out.1 l (by rw [← hl]; exact List.getElem_mem hlt))
   have HLI := Lib.hid hl
   clear hl
   go_wp2_with fail
   refine (c_Cut l Wi (hT.ext HXW.out) (by have := HOK.out.len; omega)).mono ?_
   rintro e w3 ⟨bq, rfl, hx3⟩
   have HT3 := Lib.hid (hT.ext (HXW.out.trans hx3))
   have HX3 := Lib.hid hx3
   obtain ⟨la, hla⟩ : ∃ x, (cutC 59 [] l).1 = x := ⟨_, rfl⟩
   obtain ⟨lr, hlr⟩ : ∃ x, (cutC 59 [] l).2 = x := ⟨_, rfl⟩
   have HOL := Lib.hid (show (∀ x ∈ Lib.fields la, NumW 16 x ∧ Utf8.valid ((numV 16 x : Nat) : Int) = true) ∧ (∀ x ∈ Lib.fields lr, ∃ a b c, splitC 46 [] x = [a, b, c] ∧ NumW 10 a ∧ NumW 10 b ∧ NumW 10 c ∧ x.length ≤ 100) ∧ ((∀ c ∈ la, c.toNat < 128) ∧ ∀ c ∈ lr, c.toNat < 128) ∧ (la.length ≤ 1000 ∧ lr.length ≤ 1000) ∧ ((Lib.fields la).length ≤ 1000 ∧ (Lib.fields lr).length ≤ 1000) ∧ entC l = (textC ((Lib.fields la).map (numV 16)), (Lib.fields lr).map elOf) from by
    rw [← hla, ← hlr]
    exact ⟨HOK.out.key, HOK.out.els, HOK.out.asc, HOK.out.lens, HOK.out.few, rfl⟩)
   rw [hla, hlr]
   clear hla hlr hx3 hc HOK
   go_wp2_with fail
   refine (c_FieldsC la w3 HT3.out HOL.out.2.2.2.1.1 HOL.out.2.2.1.1).mono ?_
   rintro e w4 ⟨rfl, rfl⟩
   obtain ⟨F, hF⟩ : ∃ x, Lib.fields la = x := ⟨_, rfl⟩
   rw [hF] at HOL ⊢
   have hx4 := (Ext.refl w3).alloc (.cells (F.map fun l => Value.string ⟨l.toArray⟩).toArray 9)
   have hb4 := World.alloc_heap_new w3 (.cells (F.map fun l => Value.string ⟨l.toArray⟩).toArray 9)
   generalize w3.alloc (.cells (F.map fun l => Value.string ⟨l.toArray⟩).toArray 9) = W1 at hx4 hb4 ⊢
   have HX4 := Lib.hid (HX3.out.trans hx4)
   have HT4 := Lib.hid (HT3.out.ext hx4)
   generalize w3.heap.size = fb at hb4 ⊢
   have HF4 := Lib.hid hb4
   have hFI : ((F.length : Nat) : Int) ≤ 1000 := by have := HOL.out.2.2.2.2.1.1; omega
   clear hF hx4 hb4 HT3 HX3
   go_wp2_with fail
   go_loopw [9, 34] (fun rv jv W => ∃ j : Nat, jv = .int .i64 (j : Nat) ∧ j ≤ F.length ∧ Hid (W.ownsRow W1.heap.size 21 1 rv j (i32s ((F.take j).map fun x => ((numV 16 x : Nat) : Int)))) ∧ Hid (Ext W1 W)) (fun _ jv _ => F.length + 1 - (intOf jv).toNat)
   case atStart => exact ⟨0, rfl, by omega, Lib.hid (World.ownsRow_nil _ _ _ _), Lib.hid (Ext.refl _)⟩
   case round =>
    obtain ⟨j, rfl, hj, HROW, HXJ⟩ := hrel
    by_cases hjl : j < F.length
    ·have hjI : ((j : Nat) : Int) < (F.length : Nat) := by omega
     have hdj : decide (j < F.length) = true := decide_eq_true hjl
     obtain ⟨x, hx⟩ : ∃ x, F[j] = x := ⟨_, rfl⟩
     have hcx : wr.cell? ⟨fb, j, none⟩ = some (.string ⟨x.toArray⟩) := by
      rw [cell_blk (HXJ.out.blk HF4.out) j]
      simp [hjl, hx]
     have hnw := (HOL.out.1 x (by rw [← hx]; exact List.getElem_mem hjl)).1
     have HNM := Lib.hid (fun w => c_numX 16 (.inr rfl) x w hnw)
     have hnb := numV_big (.inr rfl) x 6 hnw.2.1 (by omega) hnw.2.2
     obtain ⟨z, hz⟩ : ∃ z : Int, ((numV 16 x : Nat) : Int) = z := ⟨_, rfl⟩
     have hw := wrap_i32 (n := z) (by omega) (by omega)
     rw [hz] at HNM
     have HST := Lib.hid (show i32s ((F.take (j + 1)).map fun x => ((numV 16 x : Nat) : Int)) = i32s ((F.take j).map fun x => ((numV 16 x : Nat) : Int)) ++ [.int .i32 z] by
      rw [List.take_succ_eq_append_getElem hjl, List.map_append, i32s, i32s, List.map_append, hx, ← hz]
      rfl)
     obtain ⟨i0, hi0, hz0, hz1, hz3⟩ := hHI.out
     clear hx hnw hnb hz
     go_wp2_with fail
     refine (HNM.out wr).mono ?_
     rintro e w5 ⟨rfl, hx5⟩
     have HR5 := Lib.hid (And.intro (ownsRow_ext HROW.out hx5) (HXJ.out.trans hx5))
     clear hx5 HNM hcx HROW
     go_wp2_with (at_builtin; refine Hid.out ?_)
     refine Lib.hid ?_
     refine wpList_app rfl (.tmp 38) (.tmp 42) 55 rfl 21 i0 (.int .i32 0) 1 4 Tryz.underlying55 hi0 hz0 hz1 hz3 rfl (by decide) rfl HR5.out.1 HR5.out.2 [.int .i32 z] rfl rfl (by intro u hu; simp at hu; subst hu; rfl) (by omega) (by decide) ?_
     intro v' w6 hown6 hx6 _
     have HO6 := Lib.hid (And.intro hown6 hx6)
     clear hown6 hx6 HR5 HXJ
     go_wp2_with fail
     exact ⟨⟨j + 1, by simp, by omega, Lib.hid (by rw [HST.out]; exact HO6.out.1), Lib.hid HO6.out.2⟩, by simp only [intOf]; omega⟩
    ·have hjI : ¬ ((j : Nat) : Int) < (F.length : Nat) := by omega
     have hdj : decide (j < F.length) = false := decide_eq_false hjl
     obtain rfl : j = F.length := by omega
     clear hjl hj
     go_wp2_with fail
     rw [List.take_length] at HROW
     have HKR := Lib.hid (show RnRow wr u9 (F.map (numV 16)) from by
      obtain ⟨p, cap, e⟩ := own_slice HROW.out
      refine ⟨p, cap, by rw [e, List.length_map], fun hne => ?_⟩
      have h1 := HROW.out
      rw [e] at h1
      have hpos : 0 < F.length := List.length_pos_iff.2 (fun e => hne (by rw [e]; rfl))
      obtain ⟨g, rfl, _, _, hg⟩ := own_at h1 hpos
      refine ⟨g, rfl, fun i hi => ?_⟩
      rw [List.length_map] at hi
      rw [hg i (by omega)]
      simp [i32s, hi])
     have HT5 := Lib.hid (HT4.out.ext HXJ.out)
     have HX5 := Lib.hid (HX4.out.trans HXJ.out)
     clear HROW HF4 HX4 HT4 HXJ
     refine (c_FieldsC lr wr HT5.out HOL.out.2.2.2.1.2 HOL.out.2.2.1.2).mono ?_
     rintro e w5 ⟨rfl, rfl⟩
     obtain ⟨G, hGe⟩ : ∃ x, Lib.fields lr = x := ⟨_, rfl⟩
     rw [hGe] at HOL ⊢
     have hx5 := (Ext.refl wr).alloc (.cells (G.map fun l => Value.string ⟨l.toArray⟩).toArray 9)
     have hb5 := World.alloc_heap_new wr (.cells (G.map fun l => Value.string ⟨l.toArray⟩).toArray 9)
     have HK2 := Lib.hid (show ∀ w', Ext wr w' → RnRow w' u9 (F.map (numV 16)) from fun w' hx => by
      obtain ⟨p, cap, e, h2⟩ := HKR.out
      refine ⟨p, cap, e, fun hne => ?_⟩
      obtain ⟨g, e2, h3⟩ := h2 hne
      exact ⟨g, e2, fun i hi => hx.cell (h3 i hi)⟩)
     obtain ⟨Wk, hWk⟩ : ∃ x, wr = x := ⟨_, rfl⟩
     rw [hWk] at HK2 HX5 HT5 hx5 hb5 ⊢
     clear hWk HKR
     generalize Wk.alloc (.cells (G.map fun l => Value.string ⟨l.toArray⟩).toArray 9) = W2 at hx5 hb5 ⊢
     have HX6 := Lib.hid hx5
     generalize Wk.heap.size = gb at hb5 ⊢
     have HG5 := Lib.hid hb5
     have hGI : ((G.length : Nat) : Int) ≤ 1000 := by have := HOL.out.2.2.2.2.1.2; omega
     clear hGe hx5 hb5
     go_wp2_with fail
     go_loopw [12, 48] (fun rv jv W => ∃ j : Nat, jv = .int .i64 (j : Nat) ∧ j ≤ G.length ∧ Hid (W.ownsRow W2.heap.size 59 3 rv j (elW ((G.take j).map elOf))) ∧ Hid (Ext W2 W)) (fun _ jv _ => G.length + 1 - (intOf jv).toNat)
     case atStart => exact ⟨0, rfl, by omega, Lib.hid (World.ownsRow_nil _ _ _ _), Lib.hid (Ext.refl _)⟩
     case round =>
      obtain ⟨j, rfl, hj, HROW, HXJ⟩ := hrel
      by_cases hjl : j < G.length
      ·have hjI : ((j : Nat) : Int) < (G.length : Nat) := by omega
       have hdj : decide (j < G.length) = true := decide_eq_true hjl
       obtain ⟨x, hx⟩ : ∃ x, G[j] = x := ⟨_, rfl⟩
       have hcx : wr.cell? ⟨gb, j, none⟩ = some (.string ⟨x.toArray⟩) := by
        rw [cell_blk (HXJ.out.blk HG5.out) j]
        simp [hjl, hx]
       obtain ⟨xa, xb, xc, hsp, ha, hb, hc, hxl⟩ := HOL.out.2.1 x (by rw [← hx]; exact List.getElem_mem hjl)
       have HT6 := Lib.hid (HT5.out.ext (HX6.out.trans HXJ.out))
       have HSP := Lib.hid (c_Split x 46 wr HT6.out (by omega))
       rw [hsp] at HSP
       have HEL := Lib.hid (show elOf x = (numV 10 xa, numV 10 xb, numV 10 xc) by unfold elOf; rw [hsp])
       have HN1 := Lib.hid (fun w => c_numX 10 (.inl rfl) xa w ha)
       have HN2 := Lib.hid (fun w => c_numX 10 (.inl rfl) xb w hb)
       have HN3 := Lib.hid (fun w => c_numX 10 (.inl rfl) xc w hc)
       have HST := Lib.hid (show elW ((G.take (j + 1)).map elOf) = elW ((G.take j).map elOf) ++ [.int .i64 (numV 10 xa : Nat), .int .i64 (numV 10 xb : Nat), .int .i64 (numV 10 xc : Nat)] by
        rw [List.take_succ_eq_append_getElem hjl, List.map_append, elW, elW, List.flatMap_append, hx]
        show _ = _
        rw [List.map_cons, List.map_nil, HEL.out]
        rfl)
       generalize numV 10 xa = na at HN1 HST
       generalize numV 10 xb = nb at HN2 HST
       generalize numV 10 xc = nc at HN3 HST
       obtain ⟨i0, hi0, hz0, hz1, hz3⟩ := hHE.out
       clear hx ha hb hc hxl hsp HEL
       go_wp2_with fail
       refine HSP.out.mono ?_
       rintro e w6 ⟨rfl, rfl⟩
       have hx6 := (Ext.refl wr).alloc (.cells (([xa, xb, xc].map fun l => Value.string ⟨l.toArray⟩)).toArray 9)
       have hb6 := World.alloc_heap_new wr (.cells (([xa, xb, xc].map fun l => Value.string ⟨l.toArray⟩)).toArray 9)
       generalize wr.alloc (.cells (([xa, xb, xc].map fun l => Value.string ⟨l.toArray⟩)).toArray 9) = w6 at hx6 hb6 ⊢
       generalize wr.heap.size = nb6 at hb6 ⊢
       have HR6 := Lib.hid (And.intro (ownsRow_ext HROW.out hx6) (HXJ.out.trans hx6))
       clear hcx HSP HROW HXJ hx6
       go_wp2_with fail
       have m0 : ∀ w', EOn (fun a => a.block = nb6) w6 w' → w'.cell? ⟨nb6, 0, none⟩ = some (.string ⟨xa.toArray⟩) := fun w' hx => hx.cell rfl ((cell_blk hb6 0).trans rfl)
       have m1 : ∀ w', EOn (fun a => a.block = nb6) w6 w' → w'.cell? ⟨nb6, 1, none⟩ = some (.string ⟨xb.toArray⟩) := fun w' hx => hx.cell rfl ((cell_blk hb6 1).trans rfl)
       have m2 : ∀ w', EOn (fun a => a.block = nb6) w6 w' → w'.cell? ⟨nb6, 2, none⟩ = some (.string ⟨xc.toArray⟩) := fun w' hx => hx.cell rfl ((cell_blk hb6 2).trans rfl)
       refine wp_lexN ((fun a => a.block = nb6)) [true, true, true, true, true, true, true, true, true, true, true, true, true, true, false, false] (by kernel_rfl) (by kernel_rfl) ?_
       repeat first
        | refine wpG_move' ?_
        | refine wpG_assign' ?_
        | refine wpG_val' ?_
        | refine wpG_no' ?_
       refine wpG_call (by rfl) (fun w' hx => (by go_simp <;> first | exact rfl | exact ⟨rfl, rfl⟩)) (fun w' hx => HN1.out w') (by simp only [Act.put, List.setIfInBounds_toArray, List.set_cons_succ, List.set_cons_zero]; rfl) ?_
       repeat first
        | refine wpG_move' ?_
        | refine wpG_assign' ?_
        | refine wpG_val' ?_
        | refine wpG_no' ?_
       refine wpG_call (by rfl) (fun w' hx => (by go_simp <;> first | exact rfl | exact ⟨rfl, rfl⟩)) (fun w' hx => HN2.out w') (by simp only [Act.put, List.setIfInBounds_toArray, List.set_cons_succ, List.set_cons_zero]; rfl) ?_
       repeat first
        | refine wpG_move' ?_
        | refine wpG_assign' ?_
        | refine wpG_val' ?_
        | refine wpG_no' ?_
       refine wpG_call (by rfl) (fun w' hx => (by go_simp <;> first | exact rfl | exact ⟨rfl, rfl⟩)) (fun w' hx => HN3.out w') (by simp only [Act.put, List.setIfInBounds_toArray, List.set_cons_succ, List.set_cons_zero]; rfl) ?_
       repeat first
        | refine wpG_move' ?_
        | refine wpG_assign' ?_
        | refine wpG_val' ?_
        | refine wpG_no' ?_
       clear m0 m1 m2 HN1 HN2 HN3
       refine wpG_do (by rfl) (fun w7 hx7 K hK => ?_)
       go_wp2_with fail
       refine ⟨EOn.of_ext ((Ext.refl w7).alloc _), ?_⟩
       have hx57 := hx7.alloc (.cells #[.int .i64 (na : Nat), .int .i64 (nb : Nat), .int .i64 (nc : Nat)] 59)
       have hnew := World.alloc_heap_new w7 (.cells #[.int .i64 (na : Nat), .int .i64 (nb : Nat), .int .i64 (nc : Nat)] 59)
       generalize w7.alloc (.cells #[.int .i64 (na : Nat), .int .i64 (nb : Nat), .int .i64 (nc : Nat)] 59) = w8 at hx57 hnew ⊢
       generalize w7.heap.size = qb at hnew ⊢
       refine wpG_apps rfl (fun a w h => by cases h.1) (.tmp 54) (.tmp 68) 28 rfl 59 i0 (.agg #[.int .i64 0, .int .i64 0, .int .i64 0]) 3 24 Tryz.underlying28 hi0 hz0 hz1 hz3 rfl (by decide) rfl HR6.out.1 HR6.out.2 hx57 [.int .i64 (na : Nat), .int .i64 (nb : Nat), .int .i64 (nc : Nat)] qb 0 1 1 rfl rfl ?c1 (by intro u hu; simp at hu; rcases hu with rfl | rfl | rfl <;> rfl) ?c2 ?c3 (by decide) ?_
       case c1 =>
        intro q hq
        match q, hq with
        | 0, _ => exact (cell_blk hnew 0).trans rfl
        | 1, _ => exact (cell_blk hnew 1).trans rfl
        | 2, _ => exact (cell_blk hnew 2).trans rfl
       case c2 =>
        intro ad hS hlt c z e
        have := hx57.blk hb6
        rw [← hS, e] at this
        simp at this
       case c3 => omega
       intro v' w9 hown9 hx09 hk9
       have HO9 := Lib.hid (And.intro hown9 hx09)
       clear hown9 hx09 hk9 hnew hx57 hx7 HR6 hb6
       refine wpG_end (fun w10 hx10 => ?_)
       have HO10 := Lib.hid (And.intro (ownsRow_ext HO9.out.1 hx10) (HO9.out.2.trans hx10))
       clear HO9 hx10
       go_wp2_with fail
       refine gQ_normal ⟨rfl, ?_⟩
       go_wp2_with fail
       exact ⟨⟨j + 1, by simp, by omega, Lib.hid (by rw [HST.out]; exact HO10.out.1), Lib.hid HO10.out.2⟩, by simp only [intOf]; omega⟩
      ·have hjI : ¬ ((j : Nat) : Int) < (G.length : Nat) := by omega
       have hdj : decide (j < G.length) = false := decide_eq_false hjl
       obtain rfl : j = G.length := by omega
       clear hjl hj
       go_wp2_with fail
       rw [List.take_length] at HROW
       have HX7 := Lib.hid (HX5.out.trans (HX6.out.trans HXJ.out))
       have HTX := Lib.hid (c_Text u9 (F.map (numV 16)) wr (HK2.out wr (HX6.out.trans HXJ.out)) (by rw [List.length_map]; exact HOL.out.2.2.2.2.1.1) (fun r hr => by
        obtain ⟨x, hx, rfl⟩ := List.mem_map.1 hr
        exact (HOL.out.1 x hx).2))
       have HKY := Lib.hid (show entC l = (textC (F.map (numV 16)), G.map elOf) from HOL.out.2.2.2.2.2)
       have HLR := Lib.hid (And.intro (show wr.ownsRow W2.heap.size 59 3 u12 (G.map elOf).length (elW (G.map elOf)) by rw [List.length_map]; exact HROW.out) HXJ.out)
       have HMW := Lib.hid (show mb ≤ W2.heap.size from Nat.le_trans (Nat.le_of_lt HB.out.1.lt) (HX5.out.trans HX6.out).sz)
       clear HROW HK2 HX5 HX6 HG5 HT5 HXJ HOL
       generalize F.map (numV 16) = rs at HTX HKY
       generalize G.map elOf = es at HLR HKY
       refine HTX.out.mono ?_
       rintro e w8 ⟨rfl, hx8⟩
       have HLR8 := Lib.hid (And.intro (ownsRow_ext HLR.out.1 hx8) (HLR.out.2.trans hx8))
       have HX8 := Lib.hid (HX7.out.trans hx8)
       clear hx8 HLR HTX HX7
       have hB8 := HB.out.ext HX8.out
       have hle : ∀ e ∈ (L.take i).map entC, e.1.length ≤ 100000 := fun e he => by
        have h1 := HL.out.2.2.2.2
        rw [HBK.out] at h1
        have := most_le (L.map entC) e (by
         obtain ⟨x, hx, rfl⟩ := List.mem_map.1 he
         exact List.mem_map.2 ⟨x, List.mem_of_mem_take hx, rfl⟩)
        omega
       have hkk := hB8.keys hle
       have hkl : (textC rs).length ≤ 1000 := by
        have h1 := HL.out.2.2.2.2
        rw [HBK.out] at h1
        have := most_le (L.map entC) (entC l) (List.mem_map.2 ⟨l, by rw [← HLI.out]; exact List.getElem_mem hlt, rfl⟩)
        rw [HKY.out] at this
        have h3 : (textC rs).length ≤ mostC (L.map entC) := this
        omega
       have hkey : keyOf Tryz.prog 9 (.string ⟨(textC rs).toArray⟩) = some (.string (textC rs).toArray.toList) := Go.WideMaps.keyOf_string_mk Tryz.underlying9 (by show (textC rs).toArray.size ≤ _; rw [List.size_toArray]; unfold maxLen; omega)
       have hne := hB8.key_ne (k := textC rs) (fun e he e2 => by
        obtain ⟨j, hj, rfl⟩ := List.mem_iff_getElem.1 he
        have hj' : j < i := by simp at hj; omega
        have hnd := HL.out.2.1
        rw [HBK.out, List.map_map] at hnd
        have hn := List.pairwise_iff_getElem.1 hnd j i (by simp; omega) (by simp; omega) hj'
        refine hn ?_
        simp only [List.getElem_map, List.getElem_take, Function.comp_apply] at e2 ⊢
        rw [e2, HLI.out, HKY.out])
       obtain ⟨w9, hrun, hM9, hg9, hs9⟩ := hB8.1.put (string_keyed Tryz.underlying9) Tryz.underlying80 hkk hkey hne (v := u12)
       have HB9 := Lib.hid (hB8.snoc hg9 HMW.out hM9 (HLR8.out.1.kept hg9 (.inr (row_not_map HLR8.out.1 hB8.1))))
       have hE2 : (L.take (i + 1)).map entC = (L.take i).map entC ++ [(textC rs, es)] := by
        rw [List.take_succ_eq_append_getElem hlt, List.map_append, HLI.out, List.map_cons, List.map_nil, HKY.out]
       rw [← hE2] at HB9
       have HN9 := Lib.hid (show max n (textC rs).length = mostC ((L.take (i + 1)).map entC) by rw [hE2, most_snoc, HN.out])
       have HG9 := Lib.hid (show W0.grownBy w9 (some mb) from (HG.out.trans ⟨HX8.out.os, HX8.out.tape, HX8.out.output, HX8.out.size, fun k hk _ => HX8.out.block k hk⟩).trans hg9)
       have hIK : ((i : Nat) : Int) < 1000 := by have := HL.out.2.2.2.1; omega
       clear hE2 hg9 hs9
       have hklI : (((textC rs).length : Nat) : Int) ≤ 1000 := by omega
       clear hM9 hkk hkey hne hle hB8
       go_wp2_with fail
       exact ⟨⟨i + 1, max n (textC rs).length, _, by simp, by omega, by simp only [Value.int.injEq, true_and]; omega, HN9, HB9, HG9⟩, by simp only [intOf]; omega⟩
  ·have hd : decide (i < L.length) = false := decide_eq_false hlt
   have hlI : ¬ ((i : Nat) : Int) < (L.length : Nat) := by omega
   obtain rfl : i = L.length := by omega
   rw [List.take_length, ← HBK.out] at HB HN
   obtain rfl : n = mostC BK := HN.out
   clear hlt hi
   go_wp2_with fail
   exact ret_two rfl rfl rfl rfl ⟨mb, by rw [HBP.out]; rfl, ⟨kv, by rw [HWN.out, HBP.out]; exact HB.out⟩, HXW.out⟩
end Go.Proofs.YtokeamebcdhnpaaGreatDoor
