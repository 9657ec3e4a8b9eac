/-
 The words of the lines of a text.
-/
import Derived.Shelf.Abstract
import Derived.Lib.SmallJoins
import Derived.Maps.AppendAt
import Derived.Deep.AppendLies
import Derived.Laws.OwnMore
import Derived.Test.YtokeamebcdhnpaaGreatDoorWalkB
import Derived.Test.YtokeamebcdhnpaaGreatDoorPlanIn
namespace Go.Proofs.YtokeamebcdhnpaaGreatDoor
open Go.RowKit Go.Rp Go.Shelf

attribute [local go_sem] Oper.semAt_some

/-- The library's tables. -/
structure Tabs (w : World) : Prop where
 sp : Lib.TabIs Tryz.prog w "strings.asciiSpace" .u8 Lib.asciiSpaceTab
 u8 : Lib.Utf8Tabs 3 4 w
theorem Tabs.ext {w w' : World} (h : Tabs w) (hx : Ext w w') : Tabs w' := ⟨Go.Joins.tab_stays (g := 1) (by kernel_rfl) h.sp hx (Nat.le_refl _), Utf8Tabs_below h.u8 hx⟩
/-- The words of the lines. -/
def wordsOf (s : ByteArray) : List (List (List UInt8)) := (linesGo s.size s).map fun l => Lib.fields l.data.toList
/-- Slices of strings, each in a block of its own from n on. -/
def Wds (n : Nat) (W : World) (vs : List Value) (L : List (List (List UInt8))) : Prop :=
 vs.length = L.length ∧ ∀ i (h : i < vs.length) (h' : i < L.length), ∃ b, n ≤ b ∧ vs[i] = .slice (some ⟨b, 0, none⟩) L[i].length L[i].length ∧ W.heap[b]? = some (.cells (L[i].map fun l => Value.string ⟨l.toArray⟩).toArray 9 (0, 0))
theorem Wds.nil (n : Nat) (W : World) : Wds n W [] [] := ⟨rfl, fun i h => by simp at h⟩
theorem Wds.kept {n : Nat} {W W' : World} {vs : List Value} {L : List (List (List UInt8))} (h : Wds n W vs L) (hk : ∀ b c t z, n ≤ b → W.heap[b]? = some (.cells c t z) → W'.heap[b]? = some (.cells c t z)) : Wds n W' vs L := by
 refine ⟨h.1, fun i h1 h2 => ?_⟩
 obtain ⟨b, g1, g2, g3⟩ := h.2 i h1 h2
 exact ⟨b, g1, g2, hk b _ _ _ g1 g3⟩
theorem Wds.lower {n m : Nat} {W : World} {vs : List Value} {L : List (List (List UInt8))} (h : Wds n W vs L) (hm : m ≤ n) : Wds m W vs L :=
 ⟨h.1, fun i h1 h2 => let ⟨b, g1, g2, g3⟩ := h.2 i h1 h2; ⟨b, Nat.le_trans hm g1, g2, g3⟩⟩
theorem Wds.snoc {n : Nat} {W : World} {vs : List Value} {L : List (List (List UInt8))} (h : Wds n W vs L) {x : List (List UInt8)} {b : Nat} (hb : n ≤ b) (hc : W.heap[b]? = some (.cells (x.map fun l => Value.string ⟨l.toArray⟩).toArray 9 (0, 0))) : Wds n W (vs ++ [.slice (some ⟨b, 0, none⟩) x.length x.length]) (L ++ [x]) := by
 refine ⟨by simp [h.1], fun i h1 h2 => ?_⟩
 by_cases hi : i < vs.length
 ·have hi' : i < L.length := by rw [← h.1]; exact hi
  obtain ⟨b', g1, g2, g3⟩ := h.2 i hi hi'
  refine ⟨b', g1, ?_, ?_⟩
  ·rw [List.getElem_append_left hi, g2, List.getElem_append_left hi']
  ·rw [List.getElem_append_left hi']; exact g3
 ·have : i = vs.length := by simp at h1; omega
  subst this
  refine ⟨b, hb, ?_, ?_⟩
  ·simp [h.1]
  ·simp [h.1]; simpa using hc
theorem linesGo_mem {n : Nat} : ∀ {s x : ByteArray}, x ∈ linesGo n s → x.size ≤ s.size ∧ ∀ c ∈ x.data.toList, c ∈ s.data.toList := by
 have key : ∀ (s : ByteArray) (a b : Nat), (s.extract a b).size ≤ s.size ∧ ∀ c ∈ (s.extract a b).data.toList, c ∈ s.data.toList := by
  intro s a b
  refine ⟨by simp; omega, fun c hc => ?_⟩
  rw [ByteArray.data_extract, Array.toList_extract, List.extract_eq_take_drop] at hc
  exact List.mem_of_mem_drop (List.mem_of_mem_take hc)
 induction n with
 | zero => intro s x h; simp [linesGo] at h
 | succ n ih =>
  intro s x h
  rw [linesGo] at h
  split at h
  ·simp at h
  ·rcases List.mem_cons.1 h with rfl | h
   ·exact key _ _ _
   ·obtain ⟨h1, h2⟩ := ih h
    obtain ⟨h3, h4⟩ := key s (lineLen s) s.size
    exact ⟨Nat.le_trans h1 h3, fun c hc => h4 c (h2 c hc)⟩
theorem linesGo_len : ∀ (n : Nat) (s : ByteArray), (linesGo n s).length ≤ n
 | 0, _ => Nat.le_refl _
 | n + 1, s => by
  rw [linesGo]
  split
  ·simp
  ·simp only [List.length_cons]
   have := linesGo_len n (s.extract (lineLen s) s.size)
   omega
theorem own_lower {W : World} {n₀ n : Nat} {e : TypeId} {size : Nat} {v : Value} {k : Nat} {xs : List Value} (h : W.ownsRow n e size v k xs) (hn : n₀ ≤ n) : W.ownsRow n₀ e size v k xs := by
 obtain ⟨h1, h2⟩ := h
 refine ⟨h1, h2.imp id ?_⟩
 rintro ⟨g, cap, cur, rfl, hb, h3⟩
 exact ⟨g, cap, cur, rfl, Nat.le_trans hn hb, h3⟩
theorem own_slice {W : World} {n₀ : Nat} {e : TypeId} {size : Nat} {v : Value} {k : Nat} {xs : List Value} (h : W.ownsRow n₀ e size v k xs) : ∃ p cap, v = .slice p k cap := by
 rcases h.2 with ⟨rfl, h0⟩ | ⟨g, cap, cur, rfl, _⟩
 ·exact ⟨none, 0, by rw [h0]⟩
 ·exact ⟨_, cap, rfl⟩
/-- The cells of a slice that owns some. -/
theorem own_at {W : World} {n₀ : Nat} {e : TypeId} {size : Nat} {p : Option Addr} {k cap : Nat} {xs : List Value} (h : W.ownsRow n₀ e size (.slice p k cap) k xs) (hk : 0 < k) : ∃ g, p = some ⟨g, 0, none⟩ ∧ n₀ ≤ g ∧ g < W.heap.size ∧ ∀ j, j < k * size → W.cell? ⟨g, j, none⟩ = xs[j]? := by
 have h' := h
 rcases h.2 with ⟨e, h0⟩ | ⟨g, cap', cur, e, hg, hb, _⟩
 ·omega
 ·simp only [Value.slice.injEq] at e
  obtain ⟨rfl, -, rfl⟩ := e
  exact ⟨g, rfl, hg, blk_lt hb, fun j hj => h'.cellAt j hj⟩
theorem c_Lines (s : ByteArray) (w : World) : Calls Tryz.prog 83 #[.string s] w fun e w' => e = .returned (.func (.func 110) #[] #[.pointer (some ⟨w.heap.size, 0, none⟩)]) ∧ w' = w.alloc (.cells #[.string s] 9) := by
 go_enter Tryz.func83, Tryz.ntmps83
 go_wp2_with fail
 go_ret
 exact ⟨rfl, rfl⟩
theorem keeps_ext {W W' : World} (h : Ext W W') : KeepsOthers W W' := by
 have hg : W.grownBy W' none := ⟨h.os, h.tape, h.output, h.size, fun k hk _ => h.block k hk⟩
 exact KeepsOthers.of_grownBy hg fun j o e => by cases e
theorem Tryz.infoW : (Tryz.prog.info? 40).map (fun i => (i.zero, i.size, i.bytes)) = some (some (.slice none 0 0), 1, 24) := by kernel_rfl
set_option maxRecDepth 100000 in
set_option maxHeartbeats 4000000 in
theorem c_lines_in (s : ByteArray) (w : World) (hs : s.size ≤ 1000000) (ha : ∀ c ∈ s.data.toList, c.toNat < 128) (hT : Tabs w) :
  CallsIn Fence.wide 3 Tryz.prog 62 #[.string s] w fun e W' => ∃ v vs, e = .returned v ∧ W'.ownsRow w.heap.size 40 1 v (wordsOf s).length vs ∧ Wds w.heap.size W' vs (wordsOf s) ∧ Ext w W' := by
 have hall : ∀ f, Fence.wide.fn f := fun _ => trivial
 have hro : Fence.wide.round = none := rfl
 obtain ⟨i0, hi, hz0, hz1, hz2⟩ := info_parts Tryz.infoW
 refine callsIn_of_wp_marks Tryz.func62 rfl (hall _) ?_ rfl
 simp only [Tryz.ntmps62, List.size_toArray, List.length_cons, List.length_nil, Nat.reduceAdd, Nat.reduceSub, Array.replicate_succ, Array.replicate_zero, List.push_toArray, List.append_toArray, List.nil_append, List.cons_append]
 have hp : ∀ w', CallsIn Fence.wide (3 - 1) Tryz.prog 83 #[.string s] w' _ := fun w' => callsIn_wide.2 (c_Lines s w')
 have HA := Lib.hid ha
 clear ha
 gi_wp2_with (first | ((try refine ⟨fun _ _ => hall _, ?_⟩); gi_at_call 83; refine (hp _).mono ?_; rintro e w' ⟨rfl, rfl⟩))
 obtain ⟨w1, hw1⟩ : ∃ w1, (w.alloc (.cells #[.slice none 0 0] 105)).alloc (.cells #[.string s] 9) = w1 := ⟨_, rfl⟩
 have hsz : w1.heap.size = w.heap.size + 2 := by rw [← hw1]; simp
 have bO : Boxed w1 w.heap.size 105 (.slice none 0 0) := by rw [← hw1]; exact (Boxed.new w _ _).alloc _
 have bN : Boxed w1 (w.heap.size + 1) 9 (.string s) := by
  rw [← hw1]
  have := Boxed.new (w.alloc (.cells #[.slice none 0 0] 105)) 9 (.string s)
  rwa [World.size_alloc] at this
 have hx1 : Ext w w1 := by rw [← hw1]; exact ((Ext.refl w).alloc _).alloc _
 rw [hw1]
 clear hw1 hp
 refine wpIn_rangeFunc_box hro (by decide) (gf := 110) (lb := #[.pointer (some ⟨w.heap.size + 1, 0, none⟩)]) rfl (hall _) (enters_of Tryz.func110 (by kernel_rfl) rfl)
  (Bx := w.heap.size + 1) (by omega) bN (lines_gives (3 - 1) (w.heap.size + 1) w.heap.size s hs w1 bN) (fun h k => ⟨k.1.trans h.1, h.2.trans k.2⟩)
  (fun W l o o' hl h ho => ⟨World.putObj_heap_other (by omega), (Below.refl _ W).grown (grownBy_putObj' W l o') (by have := (Array.getElem?_eq_some_iff.1 h).1; omega) (fun k e => by cases e; omega)⟩) (fun _ => rfl)
  (fun pre W => (∃ v vs, Boxed W w.heap.size 105 v ∧ W.ownsRow w1.heap.size 40 1 v pre.length vs ∧ Wds w1.heap.size W vs (pre.map fun l => Lib.fields l.data.toList)) ∧ w1.heap.size ≤ W.heap.size ∧ Below w.heap.size w W)
  ?own ?ownx ⟨⟨_, [], bO, World.ownsRow_nil _ _ _ _, Wds.nil _ _⟩, Nat.le_refl _, hx1⟩
  (fun x => { tmps := #[.string s, undef, .slice none 0 0, .pointer (some ⟨w.heap.size, 0, none⟩), .string x, .string s, .func (.func 110) #[] #[.pointer (some ⟨w.heap.size + 1, 0, none⟩)], .string x, undef, undef, undef, undef, undef, undef], defers := [] }) ?assign ?body ?done
 case own =>
  rintro pre A B row ⟨⟨v, vs, h1, h2, h3⟩, h4, h5⟩ hg hr
  have hne : ∀ b c t z, A.heap[b]? = some (.cells c t z) → some b ≠ row := fun b c t z hb e => by
   obtain ⟨_, o, ho, hc⟩ := hr b e.symm
   rw [hb] at ho; cases ho; cases hc
  refine ⟨⟨v, vs, h1.kept hg (hne _ _ _ _ h1), h2.kept hg ?_, h3.kept fun b c t z _ hb => (hg.block b (blk_lt hb) (hne _ _ _ _ hb)).trans hb⟩, Nat.le_trans h4 hg.size, h5.grown hg h5.size fun k e => by have := (hr k e).1; omega⟩
  rcases h2.2 with ⟨rfl, _⟩ | ⟨g, cap, cur, rfl, _, hgb, _⟩
  ·exact .inl rfl
  ·exact .inr fun e => hne _ _ _ _ hgb (by simpa [Value.ownBlock] using e)
 case ownx =>
  rintro pre A B row ⟨⟨v, vs, h1, h2, h3⟩, h4, h5⟩ hg hr
  have hne : ∀ b, b ≠ w.heap.size + 1 → some b ≠ row := fun b hb e => hb (hr b e.symm)
  refine ⟨⟨v, vs, h1.kept hg (hne _ (by omega)), h2.kept hg ?_, h3.kept fun b c t z hn hb => (hg.block b (blk_lt hb) (hne _ (by omega))).trans hb⟩, Nat.le_trans h4 hg.size, h5.grown hg h5.size fun k e => by have := hr k e; omega⟩
  rcases h2.2 with ⟨rfl, _⟩ | ⟨g, cap, cur, rfl, hbase, hgb, _⟩
  ·exact .inl rfl
  ·exact .inr fun e => hne g (by omega) (by simpa [Value.ownBlock] using e)
 case assign =>
  intro l x W K hK
  gi_wp2
  exact hK
 case body =>
  rintro l pre x W ⟨⟨v, vs, hv, hrow, hwd⟩, hsz1, hB⟩ ⟨tl, htl⟩
  have hc := hv.cell
  have hx : x.size ≤ 1000000 ∧ ∀ c ∈ x.data.toList, c.toNat < 128 := by
   have hm : x ∈ linesGo s.size s := by rw [htl]; simp
   have := linesGo_mem hm
   exact ⟨Nat.le_trans this.1 hs, fun c hc => HA.out c (this.2 c hc)⟩
  have HX := Lib.hid hx
  have HB := Lib.hid hB
  have hpl : pre.length < (linesGo s.size s).length := by rw [htl]; simp
  have hll := linesGo_len s.size s
  have hdd : 1 ≤ 3 - 1 - 1 := by decide
  clear hx hB
  have m1 : ∀ w', EOn (fun a => a.block = w.heap.size) W w' → w'.cell? ⟨w.heap.size, 0, none⟩ = some v := fun w' hx => hx.cell rfl hc
  gi_wp2_with fail
  refine wpIn_lex ((fun a => a.block = w.heap.size)) [true, true, false, false, false] (by kernel_rfl) (by kernel_rfl) (by kernel_rfl) ?_
  repeat first
   | refine wpG_move' ?_
   | refine wpG_assign' ?_
   | refine wpG_val' ?_
   | refine wpG_no' ?_
  refine wpG_do (by rfl) (fun w4 hx4 K hK => ?_)
  go_wp2_with fail
  have hT4 := hT.ext (Ext.trans HB.out hx4)
  refine (Tryz.strings_Fields x w4 (by have := HX.out.1; omega) (fun j b hb => HX.out.2 b (List.mem_of_getElem? hb)) hT4.sp).mono ?_
  rintro e w5 ⟨rfl, rfl⟩
  obtain ⟨fl, hfl⟩ : ∃ fl, Lib.fields x.data.toList = fl := ⟨_, rfl⟩
  have HFL := Lib.hid hfl
  rw [hfl]
  have hx5 := (Ext.refl w4).alloc (.cells (fl.map fun l => Value.string ⟨l.toArray⟩).toArray 9)
  have hf5 := World.alloc_heap_new w4 (.cells (fl.map fun l => Value.string ⟨l.toArray⟩).toArray 9)
  generalize w4.alloc (.cells (fl.map fun l => Value.string ⟨l.toArray⟩).toArray 9) = w5 at hx5 hf5 ⊢
  have hg4 : w1.heap.size ≤ w4.heap.size := Nat.le_trans hsz1 hx4.sz
  have hx45 := Ext.trans hx4 hx5
  refine hK _ _ ⟨EOn.of_ext hx5, ?_⟩
  clear hK hfl hT4 m1 hc
  generalize w4.heap.size = fb at hf5 hg4 ⊢
  clear hx5 hx4
  refine wpG_do (by rfl) (fun w6 hx6 K hK => ?_)
  go_wp2_with fail
  refine ⟨EOn.of_ext ((Ext.refl w6).alloc _), ?_⟩
  have hx7 : Ext W (w6.alloc (.cells #[.slice (some ⟨fb, 0, none⟩) fl.length fl.length] 40)) := (Ext.trans hx45 hx6).alloc _
  have hf7 := ((Ext.trans (Ext.refl w5) hx6).alloc (.cells #[.slice (some ⟨fb, 0, none⟩) fl.length fl.length] 40)).blk hf5
  have hnew := World.news_of_block (World.alloc_heap_new w6 (.cells #[.slice (some ⟨fb, 0, none⟩) fl.length fl.length] 40))
  generalize w6.alloc (.cells #[.slice (some ⟨fb, 0, none⟩) fl.length fl.length] 40) = w7 at hx7 hf7 hnew ⊢
  generalize w6.heap.size = gb at hnew ⊢
  clear hx6 hx45 hf5
  refine wpG_do (by rfl) (fun w8 hx8 K hK => ?_)
  refine wp_alone (ops := #[]) (by rfl) (fun a w h => by cases h.1) ?_
  have hx08 := Ext.trans hx7 hx8
  have hrow8 := ownsRow_ext hrow hx08
  refine wpList_append_own _ rfl (.tmp 8) (.tmp 11) 105 rfl w1.heap.size 40 i0 (.slice none 0 0) 1 24 Tryz.underlying105 hi hz0 hz1 hz2 rfl (by decide) v pre.length vs rfl hrow8 ⟨gb, 0, none⟩ 1 1 [.slice (some ⟨fb, 0, none⟩) fl.length fl.length] rfl rfl (fun j u hu => hx8.cell (hnew j u hu)) (by intro u hu; simp at hu; subst hu; rfl) (by unfold maxLen; omega) (by omega) (Nat.le_trans hsz1 hx08.sz) ?_
  intro v' w9 hown9 hgrow9 _
  obtain ⟨g', cap', rfl⟩ := ownsRow_succ hown9
  have hv8 := hv.ext hx08
  have hv9 := hv8.kept hgrow9 (hv8.not_row (by decide) hrow8)
  have hwd9 : Wds w1.heap.size w9 (vs ++ [.slice (some ⟨fb, 0, none⟩) fl.length fl.length]) ((pre ++ [x]).map fun l => Lib.fields l.data.toList) := by
   rw [List.map_append, List.map_cons, List.map_nil, HFL.out]
   have hkb : ∀ b c z, w8.heap[b]? = some (Obj.cells c 9 z) → w9.heap[b]? = some (Obj.cells c 9 z) := fun b c z hb => by
    refine (hgrow9.block b (blk_lt hb) (fun e => ?_)).trans hb
    rcases hrow8.2 with ⟨rfl, _⟩ | ⟨g, cap, cur, rfl, _, hgb, _⟩
    ·simp [Value.ownBlock] at e
    ·obtain rfl : b = g := by simpa [Value.ownBlock] using e
     rw [hgb] at hb
     simp at hb
   refine Wds.snoc ?_ hg4 (hkb _ _ _ (hx8.blk hf7))
   refine ⟨hwd.1, fun i h1 h2 => ?_⟩
   obtain ⟨b, q1, q2, q3⟩ := hwd.2 i h1 h2
   exact ⟨b, q1, q2, hkb _ _ _ (hx08.blk q3)⟩
  have hko9 : KeepsOthers W w9 := (keeps_ext hx08).trans (KeepsOthers.of_grownBy hgrow9 fun j o ej hj => by
   rcases hrow8.2 with ⟨rfl, _⟩ | ⟨g, cap, cur, rfl, _, hgb, _⟩
   ·simp [Value.ownBlock] at ej
   ·obtain rfl : g = j := by simpa [Value.ownBlock] using ej
    rw [hgb] at hj; cases hj; rfl)
  have hbx9 : Below w.heap.size W w9 := (Below.mono hx08 HB.out.size).grown hgrow9 (Nat.le_trans HB.out.size hx08.sz) (fun k e => by
   rcases hrow8.2 with ⟨rfl, _⟩ | ⟨g, cap, cur, rfl, hbg, hgb, _⟩
   ·simp [Value.ownBlock] at e
   ·obtain rfl : g = k := by simpa [Value.ownBlock] using e
    omega)
  have hst9 : ∀ b o, b < w1.heap.size → W.heap[b]? = some o → w9.heap[b]? = some o := fun b o hb ho => (hgrow9.block b (blk_lt (hx08.blk ho)) (fun e => by
   rcases hrow8.2 with ⟨rfl, _⟩ | ⟨g, cap, cur, rfl, hbg, hgb, _⟩
   ·simp [Value.ownBlock] at e
   ·obtain rfl : b = g := by simpa [Value.ownBlock] using e
    omega)).trans (hx08.blk ho)
  have hsz9 : w1.heap.size ≤ w9.heap.size := Nat.le_trans (Nat.le_trans hsz1 hx08.sz) hgrow9.size
  refine hK _ _ ⟨EOn.of_grown hgrow9 (fun a ha hb => by rw [ha]; exact hv8.not_row (by decide) hrow8), ?_⟩
  clear hK hgrow9 hv8 hrow8 hx08 hx8 hf7 hnew hx7 hwd hrow hv
  refine wpG_end (fun w10 hx10 => ?_)
  have hv10 := hv9.ext hx10
  have hc10 := hv10.cell
  have hf10 := hv10.frozen
  go_wp2_with fail
  have hg11 := grown_of hx10 hv10.lt (Value.slice (some ⟨g', 0, none⟩) (pre.length + 1) cap')
  have hv11 := hv10.set (Value.slice (some ⟨g', 0, none⟩) (pre.length + 1) cap')
  have hsz11 : w1.heap.size ≤ (w10.setCell ⟨w.heap.size, 0, none⟩ (Value.slice (some ⟨g', 0, none⟩) (pre.length + 1) cap')).heap.size := Nat.le_trans hsz9 hg11.size
  generalize w10.setCell ⟨w.heap.size, 0, none⟩ (Value.slice (some ⟨g', 0, none⟩) (pre.length + 1) cap') = w11 at hg11 hv11 hsz11 ⊢
  have hk11 : ∀ b o, b ≠ w.heap.size → w9.heap[b]? = some o → w11.heap[b]? = some o := fun b o hb ho => (hg11.block b (blk_lt ho) (fun e => hb (by simpa using e))).trans ho
  have hbx11 : Below w.heap.size W w11 := hbx9.grown hg11 (by omega) (fun k e => by cases e; exact Nat.le_refl _)
  refine ⟨rfl, hko9.trans ⟨hg11.size, fun k o hk ho => hk11 k o (fun e => ?_) hk⟩, ⟨?_, hbx11⟩, ⟨_, vs ++ [.slice (some ⟨fb, 0, none⟩) fl.length fl.length], hv11, ?_, ?_⟩, hsz11, Below.trans HB.out hbx11⟩
  ·subst e
   rw [show w9.heap[w.heap.size]? = _ from hv9] at hk
   cases hk
   cases ho
  ·obtain ⟨ob, hob⟩ : ∃ ob, W.heap[w.heap.size + 1]? = some ob := ⟨_, Array.getElem?_eq_getElem (by omega)⟩
   rw [hk11 _ _ (by omega) (hst9 _ _ (by omega) hob), hob]
  ·rw [List.length_append]
   exact hown9.kept hg11 (.inr (hv9.not_row (by decide) hown9).symm)
  ·exact hwd9.kept fun b c t z hb hc => hk11 b _ (by omega) hc
 case done =>
  rintro D W hD ⟨⟨v, vs, hv, hrow, hwd⟩, hsz1, hB⟩ hK
  have hc := hv.cell
  gi_wp2
  refine ⟨by simp, .inl ⟨_, _, rfl, run_takeDeferred hK, ?_⟩⟩
  have hwl : (linesGo s.size s).length = (wordsOf s).length := by simp [wordsOf]
  refine ⟨_, results_tmp rfl _ _ _, v, vs, rfl, ?_, ?_, hB.trans (belowK_b (w := w) (Nat.le_refl _) W D _ _ (by omega) hK rfl rfl)⟩
  ·rw [← hwl]
   exact own_lower (ownsRow_putObj hrow _ hK rfl) (by omega)
  ·refine (hwd.kept fun b c t z _ hb => ?_).lower (by omega)
   have hne : b ≠ D := fun e => by subst e; rw [hK] at hb; cases hb
   exact (World.putObj_heap_other hne).trans hb
theorem c_lines (s : ByteArray) (w : World) (hs : s.size ≤ 1000000) (ha : ∀ c ∈ s.data.toList, c.toNat < 128) (hT : Tabs w) :
  Calls Tryz.prog 62 #[.string s] w fun e W' => ∃ v vs, e = .returned v ∧ W'.ownsRow w.heap.size 40 1 v (wordsOf s).length vs ∧ Wds w.heap.size W' vs (wordsOf s) ∧ Ext w W' := callsIn_wide.1 (c_lines_in s w hs ha hT)
end Go.Proofs.YtokeamebcdhnpaaGreatDoor
