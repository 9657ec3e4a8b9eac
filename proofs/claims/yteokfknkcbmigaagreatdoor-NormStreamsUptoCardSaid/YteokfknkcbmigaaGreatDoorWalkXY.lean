/-
 How many bytes of a text are whole runes. A stream of a text in a form. A stream is written to.
-/
import Derived.Test.YteokfknkcbmigaaGreatDoorWalkW
import Derived.Laws.IdiomStrings
section
namespace Go.Proofs.YteokfknkcbmigaaGreatDoor
open Go.RowKit Go.Rp Go.Shelf Go.Maps Go.Nm

theorem heldGo_len : ∀ (n : Nat) (l : List UInt8), (heldGo n l).length ≤ l.length
 | 0, l => Nat.le_refl _
 | n + 1, l => by
  rw [heldGo]
  split
  ·exact Nat.le_refl _
  ·refine Nat.le_trans (heldGo_len n _) ?_
   rw [List.length_drop]; omega
theorem heldL_len (l : List UInt8) : (heldL l).length ≤ l.length := heldGo_len _ l
set_option maxRecDepth 100000 in
set_option maxHeartbeats 8000000 in
theorem c_Feed (xB pb pc : Nat) (l : List UInt8) (W0 w : World) (hT : Tabs W0) (hx0 : Ext W0 w) (hxB : W0.heap.size ≤ xB) (hbk : w.heap[xB]? = some (.cells #[.slice none 0 0, .int .i64 0] 128 (0, 0))) (hp : ∀ j (h : j < l.length), w.cell? ⟨pb, j, none⟩ = some (.int .u8 l[j].toNat)) (hl : l.length ≤ 1000000) (h0 : 0 < l.length) :
  Calls Tryz.prog 65 #[.pointer (some ⟨xB, 0, none⟩), .slice (some ⟨pb, 0, none⟩) l.length pc] w fun e w' => ∃ u v', e = .returned u ∧ w'.heap[xB]? = some (.cells #[v', .int .i64 (l.length : Nat)] 128 (0, 0)) ∧ (∃ p c, v' = .slice p (heldL l).length c) ∧ Ext W0 w' := by
 obtain ⟨j0, hj0, hy0, hy1, hy3⟩ := info_parts info_u8
 have hlI : ((l.length : Nat) : Int) ≤ 1000000 := by omega
 have HL0 := Lib.hid h0
 have d0 : w.cell? ⟨xB, 0, none⟩ = some (.slice none 0 0) := (cell_blk hbk 0).trans rfl
 have hxb : xB < w.heap.size := blk_lt hbk
 have HBK := Lib.hid hbk
 have hnew : ∀ j u, (Lib.byteCells l)[j]? = some u → w.cell? ((⟨pb, 0, none⟩ : Addr).add j) = some u := fun j u hu => by
  have hj : j < l.length := by
   have := (List.getElem?_eq_some_iff.1 hu).1
   rw [Lib.byteCells_length] at this
   exact this
  have hadd : (⟨pb, 0, none⟩ : Addr).add j = ⟨pb, j, none⟩ := by unfold Addr.add; split <;> simp_all
  rw [hadd, hp j hj, ← hu]
  unfold Lib.byteCells
  rw [List.getElem?_map, List.getElem?_eq_getElem hj]
  rfl
 have HNEW := Lib.hid hnew
 clear hp hbk hnew h0
 go_enter Tryz.func65, Tryz.ntmps65
 go_wp2_with (at_builtin; refine Hid.out ?_)
 refine Lib.hid ?_
 refine wpList_append_own _ rfl (.tmp 11) (.tmp 12) 38 rfl w.heap.size 5 j0 (.int .u8 0) 1 1 Tryz.underlying38 hj0 hy0 hy1 hy3 rfl (by decide) _ 0 [] rfl (World.ownsRow_nil _ _ _ _) ⟨pb, 0, none⟩ l.length pc (Lib.byteCells l) rfl (by rw [Lib.byteCells_length, Nat.mul_one]) HNEW.out (by intro u hu; obtain ⟨b, _, rfl⟩ := List.mem_map.1 hu; rfl) (by unfold maxLen; omega) (by omega) (Nat.le_refl _) ?_
 intro v' w8 hown8 hgrow8 _
 rw [Nat.zero_add, List.nil_append] at hown8
 obtain ⟨p8, c8, rfl⟩ := own_slice hown8
 obtain ⟨g8, rfl, hg80, hg81, _⟩ := own_at hown8 HL0.out
 have hx8 : Ext w w8 := Below.grown (Ext.refl w) hgrow8 (Nat.le_refl _) (fun k e => by cases e)
 have hb8 := hx8.blk HBK.out
 have f0 := frz_blk hb8 0
 have d8 : w8.cell? ⟨xB, 0, none⟩ = some (.slice none 0 0) := (cell_blk hb8 0).trans rfl
 have hb9 := set_blk hb8 0 (.slice (some ⟨g8, 0, none⟩) l.length c8)
 have hown9 := ownsRow_setCell_other hown8 (a := ⟨xB, 0, none⟩) (by intro e; have h2 : some g8 = some xB := e; have h3 := Option.some.inj h2; omega) (.slice (some ⟨g8, 0, none⟩) l.length c8)
 have hx9 := (hx0.trans hx8).setCell (p := ⟨xB, 0, none⟩) hxB (.slice (some ⟨g8, 0, none⟩) l.length c8)
 have f1 := frz_blk hb9 1
 have e1 : (w8.setCell ⟨xB, 0, none⟩ (.slice (some ⟨g8, 0, none⟩) l.length c8)).cell? ⟨xB, 1, none⟩ = some (.int .i64 0) := (cell_blk hb9 1).trans rfl
 have hb10 := set_blk hb9 1 (.int .i64 (l.length : Nat))
 have hown10 := ownsRow_setCell_other hown9 (a := ⟨xB, 1, none⟩) (by intro e; have h2 : some g8 = some xB := e; have h3 := Option.some.inj h2; omega) (.int .i64 (l.length : Nat))
 have hx10 := hx9.setCell (p := ⟨xB, 1, none⟩) hxB (.int .i64 (l.length : Nat))
 have H10 := Lib.hid (And.intro hb10 (And.intro hown10 hx10))
 clear hb10 hown10 hx10 hx9 hown9 hb9 hb8 hx8 hown8 hgrow8 hg80 hg81 hxb
 go_wp2_with fail
 generalize (w8.setCell ⟨xB, 0, none⟩ (.slice (some ⟨g8, 0, none⟩) l.length c8)).setCell ⟨xB, 1, none⟩ (.int .i64 (l.length : Nat)) = w10 at H10 ⊢
 refine (c_marks xB w.heap.size g8 c8 l w10 (hT.ext H10.out.2.2) H10.out.1 H10.out.2.1 hl HL0.out).mono ?_
 rintro e w11 ⟨u, v', rfl, hb11, hv11, hg11⟩
 have HE := Lib.hid (show Ext W0 w11 from Below.grown H10.out.2.2 hg11 H10.out.2.2.sz (fun k e => by have h3 := Option.some.inj e; omega))
 have HF := Lib.hid (And.intro hb11 hv11)
 clear hb11 hv11 hg11 f0 d8 f1 e1 d0
 go_wp2_with fail
 go_ret
 exact ⟨_, _, rfl, HF.out.1, HF.out.2, HE.out⟩
set_option maxRecDepth 100000 in
set_option maxHeartbeats 2000000 in
theorem c_NewScanner (w : World) : Calls Tryz.prog 64 #[] w fun e w' => e = .returned (.pointer (some ⟨w.heap.size, 0, none⟩)) ∧ w' = w.alloc (.cells #[.slice none 0 0, .int .i64 0] 128) := by
 go_enter Tryz.func64, Tryz.ntmps64
 go_wp2_with fail
 go_ret
 exact ⟨rfl, rfl⟩
set_option maxRecDepth 100000 in
set_option maxHeartbeats 2000000 in
theorem c_ScHeld (xB n c : Nat) (p : Option Addr) (u : Value) (w : World) (hbk : w.heap[xB]? = some (.cells #[.slice p n c, u] 128 (0, 0))) : Calls Tryz.prog 66 #[.pointer (some ⟨xB, 0, none⟩)] w fun e w' => e = .returned (.int .i64 (n : Nat)) ∧ w' = w := by
 have d0 : w.cell? ⟨xB, 0, none⟩ = some (.slice p n c) := (cell_blk hbk 0).trans rfl
 clear hbk
 go_enter Tryz.func66, Tryz.ntmps66
 go_wp2_with fail
 go_ret
 exact ⟨rfl, rfl⟩
theorem max_back (n : Nat) : max (0 : Int) ((n : Nat) - 3) = ((n - 3 : Nat) : Int) := by omega
set_option maxRecDepth 100000 in
set_option maxHeartbeats 8000000 in
theorem c_whole (s : ByteArray) (w : World) (hT : Tabs w) (hs : s.size ≤ 1000000) (h0 : 0 < s.size) :
  Calls Tryz.prog 41 #[.string s] w fun e w' => e = .returned (.int .i64 ((s.size - (heldL (s.data.toList.drop (s.size - 3))).length : Nat) : Int)) ∧ Ext w w' := by
 have hsI : ((s.size : Nat) : Int) ≤ 1000000 := by omega
 have hmx := max_back s.size
 obtain ⟨k, hk⟩ : ∃ k, s.size - 3 = k := ⟨_, rfl⟩
 have hkl : k < s.size := by omega
 rw [hk] at hmx ⊢
 have hkI : ((k : Nat) : Int) ≤ (s.size : Nat) := by omega
 have hxt : (s.extract k s.size).data.toList = s.data.toList.drop k := by rw [toList_extract, take_all (by rw [List.length_drop, len_eq]; exact Nat.le_refl _)]
 clear hk
 obtain ⟨t, ht⟩ : ∃ t, s.extract k s.size = t := ⟨_, rfl⟩
 rw [ht] at hxt
 have htl : t.size = s.size - k := by have := congrArg List.length hxt; rw [len_eq, List.length_drop, len_eq] at this; exact this
 have hbh : (heldL (s.data.toList.drop k)).length ≤ s.size := by
  have := heldL_len (s.data.toList.drop k); rw [List.length_drop, len_eq] at this; omega
 rw [← hxt] at hbh ⊢
 have HT := Lib.hid (And.intro htl hkl)
 have HBH := Lib.hid hbh
 have htI : ((t.size : Nat) : Int) ≤ 1000000 := by omega
 have hcv := fun w => Lib.run_convert_string_bytes (P := Tryz.prog) w 9 38 5 t Tryz.underlying9 Tryz.underlying38 Tryz.underlying5
 obtain ⟨hn, hhn⟩ : ∃ hn, (heldL t.data.toList).length = hn := ⟨_, rfl⟩
 have HHN := Lib.hid hhn
 rw [hhn] at HBH ⊢
 clear hbh htl hxt hkl hhn
 go_enter Tryz.func41, Tryz.ntmps41
 go_wp2_with fail
 clear ht hmx
 refine (c_NewScanner w).mono ?_
 rintro e w1 ⟨rfl, rfl⟩
 have hb1 := World.alloc_heap_new w (.cells #[.slice none 0 0, .int .i64 0] 128)
 have hx1 := (Ext.refl w).alloc (.cells #[.slice none 0 0, .int .i64 0] 128)
 generalize w.alloc (.cells #[.slice none 0 0, .int .i64 0] 128) = w1 at hb1 hx1 ⊢
 obtain ⟨xB, hxB⟩ : ∃ xB, w.heap.size = xB := ⟨_, rfl⟩
 have HXB := Lib.hid (show w.heap.size ≤ xB by omega)
 rw [hxB] at hb1 ⊢
 have H1 := Lib.hid (And.intro hb1 hx1)
 clear hb1 hx1 hxB
 go_wp2_with fail
 obtain ⟨hxb, hcb⟩ := bytes_of w1 5 t
 generalize Lib.bytesWorld w1 5 t = w2 at hxb hcb ⊢
 generalize w1.heap.size = pb at hcb ⊢
 have hfd := fun pc => c_Feed xB pb pc t.data.toList w w2 hT (H1.out.2.trans hxb) HXB.out (hxb.blk H1.out.1) hcb (by rw [len_eq]; omega) (by rw [len_eq]; have := HT.out; omega)
 simp only [len_eq] at hfd
 refine (hfd _).mono ?_
 rintro e w3 ⟨u, v', rfl, hb3, ⟨p3, c3, rfl⟩, hx3⟩
 rw [HHN.out] at hb3
 have H3 := Lib.hid (And.intro hb3 hx3)
 clear hb3 hx3 hfd hcb hxb hcv
 go_wp2_with fail
 refine (c_ScHeld xB hn c3 p3 _ w3 H3.out.1).mono ?_
 rintro e w4 ⟨rfl, e4⟩
 obtain rfl := e4.symm
 clear e4
 have hsub : ((s.size : Nat) : Int) - (hn : Nat) = ((s.size - hn : Nat) : Int) := by have := HBH.out; omega
 have HSUB := Lib.hid hsub
 have hhI : ((hn : Nat) : Int) ≤ 1000000 := by have := HBH.out; omega
 clear hsub
 go_wp2_with fail
 go_ret
 exact ⟨congrArg (fun z => Ending.returned (Value.int .i64 z)) HSUB.out, H3.out.2⟩
end Go.Proofs.YteokfknkcbmigaaGreatDoor
end

section
namespace Go.Proofs.YteokfknkcbmigaaGreatDoor
open Go.RowKit Go.Rp Go.Shelf Go.Maps Go.Nm

set_option maxRecDepth 100000 in
set_option maxHeartbeats 4000000 in
theorem c_Back (s : ByteArray) (k : Nat) (w : World) (hT : Tabs w) (hs : s.size ≤ 1000000) (hk : k ≤ s.size) :
  Calls Tryz.prog 42 #[.string s, .int .i64 (k : Nat)] w fun e w' => e = .returned (.int .i64 (eb s.data.toList (k - 1) : Nat)) ∧ Ext w w' := by
 have hkI : ¬ ((s.size : Nat) : Int) < (k : Nat) := by omega
 have hsI : ((s.size : Nat) : Int) ≤ 1000000 := by omega
 cases k with
 | zero =>
  have he : eb s.data.toList (0 - 1) = 0 := Nat.le_zero.1 (eb_le _ _)
  rw [he]
  clear he
  go_enter Tryz.func42, Tryz.ntmps42
  go_wp2_with fail
  go_ret
  exact ⟨rfl, Ext.refl _⟩
 | succ k =>
  rw [Nat.add_sub_cancel]
  obtain ⟨z, hz⟩ : ∃ z, eb s.data.toList k = z := ⟨_, rfl⟩
  have HZ := Lib.hid hz
  rw [hz]
  clear hz
  have hk9 : ((k : Nat) : Int) + 1 ≤ (s.size : Nat) := by omega
  have hk8 : ¬ ((k : Nat) : Int) + 1 ≤ 0 := by omega
  clear hkI
  go_enter Tryz.func42, Tryz.ntmps42
  go_wp2_with fail
  go_loopw [1] (fun iv W => ∃ j : Nat, iv = .int .i64 (j : Nat) ∧ Hid (j ≤ k ∧ eb s.data.toList j = z) ∧ Ext w W) (fun iv _ => (intOf iv).toNat)
  case atStart => exact ⟨k, by simp, Lib.hid ⟨Nat.le_refl _, HZ.out⟩, Ext.refl _⟩
  case round =>
   obtain ⟨j, rfl, hj, hx⟩ := hrel
   cases j with
   | zero =>
    have hz0 : z = 0 := by rw [← hj.out.2]; exact Nat.le_zero.1 (eb_le _ _)
    have HZ0 := Lib.hid hz0
    clear hz0
    go_wp2_with fail
    go_ret
    exact ⟨by rw [HZ0.out]; rfl, hx⟩
   | succ j =>
    obtain ⟨b, hb⟩ : ∃ b : Bool, b = true ↔ edge s.data.toList (j + 1) := by
     by_cases h : edge s.data.toList (j + 1)
     ·exact ⟨true, by simp [h]⟩
     ·exact ⟨false, by simp [h]⟩
    have HIS := Lib.hid (c_Is s (j + 1) b wr hb (hT.ext hx) (by omega) (by have := hj.out; omega))
    have HB := Lib.hid hb
    have hj9 : ((j : Nat) : Int) + 1 ≤ 1000000 := by have := hj.out; omega
    clear hb
    go_wp2_with fail
    refine HIS.out.mono ?_
    rintro e w2 ⟨rfl, hx2⟩
    have HX2 := Lib.hid (Ext.trans hx hx2)
    clear hx2 hx HIS
    cases b with
    | true =>
     have he : z = j + 1 := by rw [← hj.out.2]; exact eb_of _ _ (HB.out.1 rfl)
     have HE := Lib.hid he
     clear he
     go_wp2_with fail
     go_ret
     exact ⟨by rw [HE.out]; rfl, HX2.out⟩
    | false =>
     go_wp2_with fail
     go_roundw
     case rel => exact ⟨j, by simp, Lib.hid ⟨by have := hj.out; omega, by rw [← hj.out.2, eb_not _ _ (fun h => by have := HB.out.2 h; cases this)]⟩, HX2.out⟩
     case measure => simp [intOf]
theorem size_set (W : World) (b i : Nat) (v : Value) : (W.setCell ⟨b, i, none⟩ v).heap.size = W.heap.size := by
 show (W.heap.modify b _).size = _
 simp
theorem block_set (W : World) (b i : Nat) (v : Value) (c : Nat) (h : c ≠ b) : (W.setCell ⟨b, i, none⟩ v).heap[c]? = W.heap[c]? := by
 show (W.heap.modify b _)[c]? = _
 rw [Array.getElem?_modify, if_neg (fun e => h e.symm)]
/-- A stream as it stands; what stood but the stream stands. -/
structure StrAt (W1 : World × World) (nb tB xB : Nat) (f : Int) (ws : ByteArray) (W : World) : Prop where
 tab : NTab nb W1.1 tB
 tabs : Tabs W1.1
 ext : Ext W1.1 W
 le : W1.1.heap.size ≤ xB
 keep : W1.2.heap.size ≤ W.heap.size ∧ ∀ b, b < W1.2.heap.size → b ≠ xB → W.heap[b]? = W1.2.heap[b]?
 blk : W.heap[xB]? = some (.cells #[.pointer (some ⟨tB, 0, none⟩), .int .i64 f, .string ws] 71 (0, 0))
theorem StrAt.more {W1 : World × World} {nb tB xB : Nat} {f : Int} {ws : ByteArray} {W W' : World} (h : StrAt W1 nb tB xB f ws W) (hx : Ext W W') : StrAt W1 nb tB xB f ws W' :=
 ⟨h.tab, h.tabs, h.ext.trans hx, h.le, ⟨Nat.le_trans h.keep.1 hx.sz, fun b hb hne => (Below.block hx b (Nat.lt_of_lt_of_le hb h.keep.1)).trans (h.keep.2 b hb hne)⟩, hx.blk h.blk⟩
theorem StrAt.now {W1 : World × World} {nb tB xB : Nat} {f : Int} {ws : ByteArray} {W : World} (h : StrAt W1 nb tB xB f ws W) : StrAt (W1.1, W) nb tB xB f ws W :=
 ⟨h.tab, h.tabs, h.ext, h.le, ⟨Nat.le_refl _, fun _ _ _ => rfl⟩, h.blk⟩
theorem StrAt.put {W1 : World × World} {nb tB xB : Nat} {f : Int} {ws : ByteArray} {W : World} (h : StrAt W1 nb tB xB f ws W) (vs : ByteArray) : StrAt W1 nb tB xB f vs (W.setCell ⟨xB, 2, none⟩ (.string vs)) :=
 ⟨h.tab, h.tabs, h.ext.setCell h.le _, h.le, ⟨by rw [size_set]; exact h.keep.1, fun b hb hne => (block_set W xB 2 _ b hne).trans (h.keep.2 b hb hne)⟩, set_blk h.blk 2 (.string vs)⟩
set_option maxRecDepth 100000 in
set_option maxHeartbeats 4000000 in
theorem c_New (f : Int) (hf : 0 ≤ f ∧ f ≤ 3) (w : World) (hT : Tabs w) :
  Calls Tryz.prog 16 #[.int .i64 f] w fun e w' => ∃ (W1 : World × World) (nb tB xB : Nat), e = .returned (.tuple #[.pointer (some ⟨xB, 0, none⟩), .int .i64 0]) ∧ StrAt W1 nb tB xB f ⟨#[]⟩ w' ∧ Ext w w' ∧ Ext w W1.1 := by
 have HC := Lib.hid (show ∀ w, Calls Tryz.prog 33 #[.int .i64 f] w fun e w' => e = .returned (.bool true) ∧ w' = w from fun w => by rw [← decide_eq_true hf]; exact c_right f w)
 clear hf
 go_enter Tryz.func16, Tryz.ntmps16
 go_wp2_with fail
 refine (HC.out w).mono ?_
 rintro e w3 ⟨rfl, e3⟩
 obtain rfl := e3.symm
 clear e3
 go_wp2_with fail
 refine (c_load w hT).mono ?_
 rintro e w2 ⟨tB, rfl, ht, hx⟩
 have HT := Lib.hid (And.intro ht hx)
 clear ht hx
 go_wp2_with fail
 exact ret_two rfl rfl rfl rfl ⟨(w2, w2.alloc _), w.heap.size, tB, w2.heap.size, rfl, ⟨HT.out.1, hT.ext HT.out.2, (Ext.refl w2).alloc _, Nat.le_refl _, ⟨Nat.le_refl _, fun _ _ _ => rfl⟩, World.alloc_heap_new w2 _⟩, HT.out.2.alloc _, HT.out.2⟩
set_option maxRecDepth 100000 in
set_option maxHeartbeats 4000000 in
theorem c_Held (W1 : World × World) (nb tB xB : Nat) (f : Int) (ws : ByteArray) (w : World) (h : StrAt W1 nb tB xB f ws w) :
  Calls Tryz.prog 23 #[.pointer (some ⟨xB, 0, none⟩)] w fun e w' => e = .returned (.int .i64 (ws.size : Nat)) ∧ w' = w := by
 have d2 : w.cell? ⟨xB, 2, none⟩ = some (.string ws) := (cell_blk h.blk 2).trans rfl
 clear h
 go_enter Tryz.func23, Tryz.ntmps23
 go_wp2_with fail
 go_ret
 exact ⟨rfl, rfl⟩
set_option maxRecDepth 100000 in
set_option maxHeartbeats 4000000 in
theorem c_Close (W1 : World × World) (nb tB xB : Nat) (f : Int) (hf : 0 ≤ f ∧ f ≤ 3) (ws : ByteArray) (hs : ws.size ≤ 1000000) (w : World) (h : StrAt W1 nb tB xB f ws w) :
  Calls Tryz.prog 19 #[.pointer (some ⟨xB, 0, none⟩)] w fun e w' => e = .returned (.string ⟨(formT f ws.data.toList).toArray⟩) ∧ StrAt W1 nb tB xB f ⟨#[]⟩ w' := by
 have d0 : ∀ w', EOn (fun _ => True) w w' → w'.cell? ⟨xB, 0, none⟩ = some (.pointer (some ⟨tB, 0, none⟩)) := fun w' hx => hx.cell trivial ((cell_blk h.blk 0).trans rfl)
 have d1 : ∀ w', EOn (fun _ => True) w w' → w'.cell? ⟨xB, 1, none⟩ = some (.int .i64 f) := fun w' hx => hx.cell trivial ((cell_blk h.blk 1).trans rfl)
 have d2 : ∀ w', EOn (fun _ => True) w w' → w'.cell? ⟨xB, 2, none⟩ = some (.string ws) := fun w' hx => hx.cell trivial ((cell_blk h.blk 2).trans rfl)
 have HS := Lib.hid h
 obtain ⟨z, hz⟩ : ∃ z, formT f ws.data.toList = z := ⟨_, rfl⟩
 have HF := Lib.hid (show ∀ nb tB w, NTab nb w tB → Tabs w → Calls Tryz.prog 35 #[.pointer (some ⟨tB, 0, none⟩), .string ws, .int .i64 f] w fun e w' => e = .returned (.string ⟨z.toArray⟩) ∧ Ext w w' from fun nb tB w h1 h2 => by
  have := c_form nb tB ws f w h1 h2 hs
  rw [← hz]
  unfold formT
  rw [if_pos hf]
  exact this)
 rw [hz]
 clear h hz hf
 go_enter Tryz.func19, Tryz.ntmps19
 go_wp2_with fail
 refine wp_lex (fun _ => True) [true, true, true, true, true, true, true, true, true, true, true, true, false, true] (by kernel_rfl) (by kernel_rfl) ?_
 repeat first
  | refine wpG_move' ?_
  | refine wpG_assign' ?_
  | refine wpG_val' ?_
  | refine wpG_no' ?_
 clear d0 d1 d2
 refine wpG_do (by rfl) (fun w5 hx5 K hK => ?_)
 go_wp2_with fail
 refine (HF.out nb tB w5 (HS.out.tab.ext (HS.out.ext.trans hx5)) (HS.out.tabs.ext (HS.out.ext.trans hx5))).mono ?_
 rintro e w6 ⟨rfl, hx6⟩
 refine hK _ _ ⟨EOn.of_ext hx6, ?_⟩
 clear hK
 repeat first
  | refine wpG_move' ?_
  | refine wpG_assign' ?_
  | refine wpG_val' ?_
  | refine wpG_no' ?_
 refine wpG_end (fun w7 hx7 => ?_)
 have hS7 := HS.out.more (hx5.trans (hx6.trans hx7))
 have e2 : w7.cell? ⟨xB, 2, none⟩ = some (.string ws) := (cell_blk hS7.blk 2).trans rfl
 have f2 := frz_blk hS7.blk 2
 have HS8 := Lib.hid (hS7.put ⟨#[]⟩)
 clear hx5 hx6 hx7 hS7 HF
 go_wp2_with fail
 refine gQ_normal ?_
 go_wp2_with fail
 go_ret
 exact ⟨rfl, HS8.out⟩
end Go.Proofs.YteokfknkcbmigaaGreatDoor
end

section
namespace Go.Proofs.YteokfknkcbmigaaGreatDoor
open Go.RowKit Go.Rp Go.Shelf Go.Maps Go.Nm

/-- How many bytes at the front are whole runes. -/
def wholeN (l : List UInt8) : Nat := l.length - (heldL (l.drop (l.length - 3))).length
/-- Where a text is cut that is told. -/
def CutAt (u : List UInt8) (f : Int) (at' : Nat) : Prop :=
 (at' = 0 ∨ (0 < at' ∧ at' < u.length ∧ SafeT u at' f)) ∧ ∀ k, at' < k → k < u.length → ¬ SafeT u k f
theorem eb_between {l : List UInt8} {n k : Nat} (h1 : eb l n < k) (h2 : k ≤ n) : ¬ edge l k := fun h => by
 have h3 := eb_mono l k n h2
 rw [eb_of l k h] at h3
 omega
set_option maxRecDepth 100000 in
set_option maxHeartbeats 8000000 in
theorem c_Write (W1 : World × World) (nb tB xB pb pc : Nat) (f : Int) (hf : 0 ≤ f ∧ f ≤ 3) (ws vs : ByteArray) (pl : List UInt8) (at' : Nat) (w : World) (h : StrAt W1 nb tB xB f ws w)
  (hp : ∀ j (h : j < pl.length), w.cell? ⟨pb, j, none⟩ = some (.int .u8 pl[j].toNat)) (hv : vs.data.toList = ws.data.toList ++ pl) (hs : vs.size ≤ 1000000) (h0 : 0 < vs.size) (hc : CutAt (vs.data.toList.take (wholeN vs.data.toList)) f at') :
  Calls Tryz.prog 21 #[.pointer (some ⟨xB, 0, none⟩), .slice (some ⟨pb, 0, none⟩) pl.length pc] w fun e w' => e = .returned (.string ⟨(if at' = 0 then [] else formT f (vs.data.toList.take at')).toArray⟩) ∧ StrAt W1 nb tB xB f ⟨(vs.data.toList.drop at').toArray⟩ w' := by
 have d2 : ∀ w', EOn (fun _ => True) w w' → w'.cell? ⟨xB, 2, none⟩ = some (.string ws) := fun w' hx => hx.cell trivial ((cell_blk h.blk 2).trans rfl)
 have hcv : ∀ w', EOn (fun _ => True) w w' → (convert 38 9 (.slice (some ⟨pb, 0, none⟩) pl.length pc)).run Tryz.prog w' = .ok (.string ⟨pl.toArray⟩) w' := fun w' hx =>
  run_convert_bytes_back (P := Tryz.prog) w' 38 9 5 ⟨pb, 0, none⟩ pc pl Tryz.underlying38 Tryz.underlying5 Tryz.underlying9 (fun j hj => by
   have hadd : (⟨pb, 0, none⟩ : Addr).add j = ⟨pb, j, none⟩ := by unfold Addr.add; split <;> simp_all
   rw [hadd]
   exact hx.cell trivial (hp j hj))
 have hvs : ws ++ (⟨pl.toArray⟩ : ByteArray) = vs := by
  refine ByteArray.ext (Array.toList_inj.1 ?_)
  rw [hv]
  simp
 obtain ⟨ps, hps⟩ : ∃ ps, (⟨pl.toArray⟩ : ByteArray) = ps := ⟨_, rfl⟩
 simp only [hps] at hcv
 rw [hps] at hvs
 have HBIG := Lib.hid (show ws.size + ps.size ≤ 1000000 by
  have := congrArg ByteArray.size hvs
  rw [ByteArray.size_append] at this
  omega)
 clear hps
 have HS := Lib.hid h
 have HV := Lib.hid (And.intro hs h0)
 have HC := Lib.hid hc
 have HVS := Lib.hid hvs
 have hpl : ((pl.length : Nat) : Int) ≤ 1000000 := by have := congrArg List.length hv; rw [List.length_append, len_eq] at this; omega
 obtain ⟨res, hres⟩ : ∃ res : ByteArray, (⟨(if at' = 0 then [] else formT f (vs.data.toList.take at')).toArray⟩ : ByteArray) = res := ⟨_, rfl⟩
 obtain ⟨rst, hrst⟩ : ∃ rst : ByteArray, (⟨(vs.data.toList.drop at').toArray⟩ : ByteArray) = rst := ⟨_, rfl⟩
 have HRES := Lib.hid (And.intro hres hrst)
 rw [hres, hrst]
 clear h hp hv hs h0 hc hvs hres hrst
 go_enter Tryz.func21, Tryz.ntmps21
 go_wp2_with fail
 refine wp_reck (fun _ => True) [0, 1, 2, 4] [3, 5, 6, 7, 8, 9] [true, true] (by kernel_rfl) (by kernel_rfl) (by simp only [List.map_cons, List.map_nil, nth]; rfl) (by simp only [List.map_cons, List.map_nil, nth]; rfl) (fun wq hxq => ?_)
 repeat first
  | refine wpP_move' ?_
  | refine wpP_val' ?_
 refine wpP_end ?_
 replace d2 := fun w' hx => d2 w' (EOn.trans (EOn.of_ext hxq) hx)
 replace hcv := fun w' hx => hcv w' (EOn.trans (EOn.of_ext hxq) hx)
 repeat first
  | refine wpG_move' ?_
  | refine wpG_assign' ?_
  | refine wpG_val' ?_
  | refine wpG_no' ?_
 refine wpG_end (fun w6 hx6 => ?_)
 have hS6 := HS.out.more (hxq.trans hx6)
 have e2 : w6.cell? ⟨xB, 2, none⟩ = some (.string ws) := (cell_blk hS6.blk 2).trans rfl
 have f2 := frz_blk hS6.blk 2
 have hvs := HVS.out
 have HS7 := Lib.hid (hS6.put vs)
 clear hxq hx6 d2 hcv HS hS6
 go_wp2_with fail
 ·rename_i hbig
  exfalso
  have := HBIG.out
  omega
 rename_i hsmall
 clear hsmall
 refine gQ_normal ?_
 clear hvs e2 f2
 generalize w6.setCell ⟨xB, 2, none⟩ (.string vs) = w7 at HS7 ⊢
 have e2 : ∀ w', EOn (fun _ => True) w7 w' → w'.cell? ⟨xB, 2, none⟩ = some (.string vs) := fun w' hx => hx.cell trivial ((cell_blk HS7.out.blk 2).trans rfl)
 have hvl : vs.data.toList.length = vs.size := len_eq vs
 have HWH := Lib.hid (show ∀ w', Ext w7 w' → Calls Tryz.prog 41 #[.string vs] w' fun e w'' => e = .returned (.int .i64 (wholeN vs.data.toList : Nat)) ∧ Ext w' w'' from fun w' hx => by
  have := c_whole vs w' (HS7.out.tabs.ext (HS7.out.ext.trans hx)) HV.out.1 HV.out.2
  unfold wholeN
  rw [hvl]
  exact this)
 have hmle : wholeN vs.data.toList ≤ vs.size := by unfold wholeN; omega
 obtain ⟨m, hm⟩ : ∃ m, wholeN vs.data.toList = m := ⟨_, rfl⟩
 rw [hm] at HWH HC hmle
 have hmI : ((m : Nat) : Int) ≤ (vs.size : Nat) := by omega
 have hvI : ((vs.size : Nat) : Int) ≤ 1000000 := by have := HV.out.1; omega
 obtain ⟨us, hus⟩ : ∃ us, vs.extract 0 m = us := ⟨_, rfl⟩
 have hul : us.data.toList = vs.data.toList.take m := by rw [← hus, toList_extract, List.drop_zero, Nat.sub_zero]
 have husz : us.size = m := by have := congrArg List.length hul; rw [len_eq, List.length_take, hvl] at this; omega
 rw [← hul] at HC
 have HU := Lib.hid (And.intro hul (And.intro husz hmle))
 clear hvl hm hmle hul husz
 go_wp2_with fail
 refine wp_lex (fun _ => True) [true, true, true, true, true, true, true, true, false, true, true] (by kernel_rfl) (by kernel_rfl) ?_
 repeat first
  | refine wpG_move' ?_
  | refine wpG_assign' ?_
  | refine wpG_val' ?_
  | refine wpG_no' ?_
 refine wpG_do (by rfl) (fun w8 hx8 K hK => ?_)
 go_wp2_with fail
 refine (HWH.out w8 hx8).mono ?_
 rintro e w9 ⟨rfl, hx9⟩
 refine hK _ _ ⟨EOn.of_ext hx9, ?_⟩
 clear hK
 repeat first
  | refine wpG_move' ?_
  | refine wpG_assign' ?_
  | refine wpG_val' ?_
  | refine wpG_no' ?_
 refine wpG_end (fun w10 hx10 => ?_)
 have HS10 := Lib.hid (HS7.out.more (hx8.trans (hx9.trans hx10)))
 clear hx8 hx9 hx10 e2 HWH HS7 hmI
 go_wp2_with fail
 refine gQ_normal ?_
 go_wp2_with fail
 refine (c_Back us us.size w10 (HS10.out.tabs.ext HS10.out.ext) (by have := HU.out.2.1; have := HU.out.2.2; have := HV.out.1; omega) (Nat.le_refl _)).mono ?_
 rintro e w11 ⟨rfl, hx11⟩
 have HS11 := Lib.hid (HS10.out.more hx11)
 clear hx11 HS10
 obtain ⟨a0, ha0⟩ : ∃ a0, eb us.data.toList (us.size - 1) = a0 := ⟨_, rfl⟩
 have HA0 := Lib.hid (show (a0 = 0 ∨ (edge us.data.toList a0 ∧ a0 < us.data.toList.length)) ∧ ∀ k, a0 < k → k < us.data.toList.length → ¬ SafeT us.data.toList k f by
  rw [← ha0]
  refine ⟨?_, fun k h1 h2 h3 => eb_between h1 (by rw [len_eq] at h2; omega) h3.1.2.2⟩
  by_cases h : us.size = 0
  ·left
   rw [h]
   exact Nat.le_zero.1 (eb_le _ _)
  ·right
   have := eb_le us.data.toList (us.size - 1)
   exact ⟨eb_edge _ _, by rw [len_eq]; omega⟩)
 rw [ha0]
 clear ha0
 go_wp2_with fail
 go_loopw [6] (fun iv W => ∃ a : Nat, iv = .int .i64 (a : Nat) ∧ Hid ((a = 0 ∨ (edge us.data.toList a ∧ a < us.data.toList.length)) ∧ ∀ k, a < k → k < us.data.toList.length → ¬ SafeT us.data.toList k f) ∧ Hid (StrAt W1 nb tB xB f vs W)) (fun iv _ => (intOf iv).toNat)
 case atStart => exact ⟨a0, rfl, HA0, HS11⟩
 case round =>
  clear HA0 HS11
  obtain ⟨a, rfl, ha, HSW⟩ := hrel
  cases a with
  | zero =>
   have hat : at' = 0 := by
    have h1 := ha.out.2
    have h2 := HC.out
    rcases h2.1 with h | ⟨h3, h4, h5⟩
    ·exact h
    ·exact absurd h5 (h1 at' h3 h4)
   have HAT := Lib.hid hat
   clear hat
   go_wp2_with fail
   refine wp_lex (fun _ => True) [true, true, true, true, true, true, true, true, true, true, true, true, true, true, true, true] (by kernel_rfl) (by kernel_rfl) ?_
   repeat first
    | refine wpG_move' ?_
    | refine wpG_assign' ?_
    | refine wpG_val' ?_
    | refine wpG_no' ?_
   refine wpG_end (fun w12 hx12 => ?_)
   have HS12 := Lib.hid (HSW.out.more hx12)
   clear hx12 HSW
   go_wp2_with fail
   refine gQ_normal ?_
   go_wp2_with fail
   go_ret
   have h1 := HRES.out
   rw [HAT.out, if_pos rfl] at h1
   rw [← h1.1, ← h1.2]
   exact ⟨rfl, HS12.out⟩
  | succ a =>
   have hal : a + 1 < us.size := by
    rcases ha.out.1 with h | h
    ·omega
    ·rw [len_eq] at h; exact h.2
   obtain ⟨b, hb⟩ : ∃ b : Bool, b = true ↔ SafeT us.data.toList ((a + 1 : Nat) : Int) f := by
    by_cases h : SafeT us.data.toList ((a + 1 : Nat) : Int) f
    ·exact ⟨true, fun _ => h, fun _ => rfl⟩
    ·exact ⟨false, (fun h2 => by cases h2), fun h2 => absurd h2 h⟩
   have HSF := Lib.hid (fun w' (hx : Ext wr w') => c_safe nb tB us ((a + 1 : Nat) : Int) f b w' (HSW.out.tab.ext (HSW.out.ext.trans hx)) (HSW.out.tabs.ext (HSW.out.ext.trans hx)) (by have := HU.out.2.1; have := HU.out.2.2; have := HV.out.1; omega) (by rw [hb]; unfold SafeT; rw [len_eq]))
   have HB := Lib.hid hb
   have y0 : ∀ w', EOn (fun _ => True) wr w' → w'.cell? ⟨xB, 0, none⟩ = some (.pointer (some ⟨tB, 0, none⟩)) := fun w' hx => hx.cell trivial ((cell_blk HSW.out.blk 0).trans rfl)
   have y1 : ∀ w', EOn (fun _ => True) wr w' → w'.cell? ⟨xB, 1, none⟩ = some (.int .i64 f) := fun w' hx => hx.cell trivial ((cell_blk HSW.out.blk 1).trans rfl)
   have ha9 : ((a : Nat) : Int) + 1 ≤ 1000000 := by have := HU.out.2.1; have := HU.out.2.2; have := HV.out.1; omega
   have HAL := Lib.hid hal
   clear hb hal
   go_wp2_with fail
   refine wp_lex (fun _ => True) [true, true, true, true, true, true, true, true, true, true, true, true, true, false, true, true] (by kernel_rfl) (by kernel_rfl) ?_
   repeat first
    | refine wpG_move' ?_
    | refine wpG_assign' ?_
    | refine wpG_val' ?_
    | refine wpG_no' ?_
   clear y0 y1
   refine wpG_do (by rfl) (fun w12 hx12 K hK => ?_)
   go_wp2_with fail
   have hsf := HSF.out w12 hx12
   rw [show ((a + 1 : Nat) : Int) = (a : Int) + 1 from by omega] at hsf
   refine hsf.mono ?_
   rintro e w13 ⟨rfl, hx13⟩
   refine hK _ _ ⟨EOn.of_ext hx13, ?_⟩
   clear hK hsf
   cases b with
   | true =>
    repeat first
     | refine wpG_move' ?_
     | refine wpG_assign' ?_
     | refine wpG_val' ?_
     | refine wpG_no' ?_
    refine wpG_end (fun w14 hx14 => ?_)
    have HS14 := Lib.hid (HSW.out.more (hx12.trans (hx13.trans hx14)))
    clear hx12 hx13 hx14 HSW HSF
    go_wp2_with fail
    refine gQ_normal ?_
    clear ha9
    obtain ⟨z, hz⟩ : ∃ z : Nat, a + 1 = z := ⟨_, rfl⟩
    have HZ := Lib.hid hz
    have hz0 : (((z : Nat) : Int) == 0) = false := by simp; omega
    have hzu : ((z : Nat) : Int) ≤ (us.size : Nat) := by have := HAL.out; omega
    have hzv : ((z : Nat) : Int) ≤ (vs.size : Nat) := by have := HAL.out; have := HU.out; omega
    rw [show ((a : Nat) : Int) + 1 = ((z : Nat) : Int) from by omega]
    clear hz hus
    have hat : at' = z := by
     have h1 := HB.out.1 (by trivial)
     rw [HZ.out] at h1
     have h2 := ha.out.2
     rw [HZ.out] at h2
     have h3 := HC.out
     have h4 := HAL.out
     rw [HZ.out] at h4
     rcases Nat.lt_trichotomy at' z with h | h | h
     ·exact absurd h1 (h3.2 z h (by rw [len_eq]; omega))
     ·exact h
     ·rcases h3.1 with h5 | ⟨h5, h6, h7⟩
      ·omega
      ·exact absurd h7 (h2 at' h h6)
    have hz1 : z ≠ 0 := by have := HZ.out; omega
    have HAT := Lib.hid (And.intro hat hz1)
    obtain ⟨ts, hts⟩ : ∃ ts, us.extract 0 z = ts := ⟨_, rfl⟩
    obtain ⟨rs, hrs⟩ : ∃ rs, vs.extract z vs.size = rs := ⟨_, rfl⟩
    have HTS := Lib.hid (show ts.data.toList = vs.data.toList.take z ∧ ts.size ≤ 1000000 ∧ rs = ⟨(vs.data.toList.drop z).toArray⟩ by
     have hu := HU.out
     have hl := HAL.out
     have hv := HV.out.1
     have hz9 := HZ.out
     have e1 : ts.data.toList = vs.data.toList.take z := by
      rw [← hts, toList_extract, List.drop_zero, Nat.sub_zero, hu.1, List.take_take, Nat.min_eq_left (by omega)]
     refine ⟨e1, ?_, ?_⟩
     ·have := congrArg List.length e1
      rw [len_eq, List.length_take, len_eq] at this
      omega
     ·rw [← hrs]
      refine ByteArray.ext (Array.toList_inj.1 ?_)
      rw [toList_extract, take_all (by rw [List.length_drop, len_eq]; exact Nat.le_refl _)])
    obtain ⟨fz, hfz⟩ : ∃ fz, formT f ts.data.toList = fz := ⟨_, rfl⟩
    have HF := Lib.hid (show ∀ nb tB w, NTab nb w tB → Tabs w → Calls Tryz.prog 35 #[.pointer (some ⟨tB, 0, none⟩), .string ts, .int .i64 f] w fun e w' => e = .returned (.string ⟨fz.toArray⟩) ∧ Ext w w' from fun nb tB w h1 h2 => by
     have := c_form nb tB ts f w h1 h2 HTS.out.2.1
     rw [← hfz]
     unfold formT
     rw [if_pos hf]
     exact this)
    have HFZ := Lib.hid hfz
    have y0 : ∀ w', EOn (fun _ => True) w14 w' → w'.cell? ⟨xB, 0, none⟩ = some (.pointer (some ⟨tB, 0, none⟩)) := fun w' hx => hx.cell trivial ((cell_blk HS14.out.blk 0).trans rfl)
    have y1 : ∀ w', EOn (fun _ => True) w14 w' → w'.cell? ⟨xB, 1, none⟩ = some (.int .i64 f) := fun w' hx => hx.cell trivial ((cell_blk HS14.out.blk 1).trans rfl)
    clear hat hz1 hfz
    go_wp2_with fail
    refine wp_lex (fun _ => True) [true, true, true, true, true, true, true, true, true, true, true, false, true] (by kernel_rfl) (by kernel_rfl) ?_
    repeat first
     | refine wpG_move' ?_
     | refine wpG_assign' ?_
     | refine wpG_val' ?_
     | refine wpG_no' ?_
    clear y0 y1
    refine wpG_do (by rfl) (fun w15 hx15 K hK => ?_)
    go_wp2_with fail
    refine (HF.out nb tB w15 (HS14.out.tab.ext (HS14.out.ext.trans hx15)) (HS14.out.tabs.ext (HS14.out.ext.trans hx15))).mono ?_
    rintro e w16 ⟨rfl, hx16⟩
    refine hK _ _ ⟨EOn.of_ext hx16, ?_⟩
    clear hK
    repeat first
     | refine wpG_move' ?_
     | refine wpG_assign' ?_
     | refine wpG_val' ?_
     | refine wpG_no' ?_
    refine wpG_end (fun w17 hx17 => ?_)
    have HS17 := Lib.hid (HS14.out.more (hx15.trans (hx16.trans hx17)))
    clear hx15 hx16 hx17 HS14 HF
    go_wp2_with fail
    refine gQ_normal ?_
    have e2 : w17.cell? ⟨xB, 2, none⟩ = some (.string vs) := (cell_blk HS17.out.blk 2).trans rfl
    have f2 := frz_blk HS17.out.blk 2
    have HS19 := Lib.hid (HS17.out.put rs)
    clear HS17
    go_wp2_with fail
    go_ret
    have h1 := HAT.out
    have h2 := HTS.out
    have h3 := HS19.out
    have h4 := HRES.out
    rw [h1.1, if_neg h1.2, ← h2.1, HFZ.out] at h4
    rw [← h4.1, ← h4.2, ← h2.2.2]
    exact ⟨rfl, h3⟩
   | false =>
    repeat first
     | refine wpG_move' ?_
     | refine wpG_assign' ?_
     | refine wpG_val' ?_
     | refine wpG_no' ?_
    refine wpG_end (fun w14 hx14 => ?_)
    have HS14 := Lib.hid (HSW.out.more (hx12.trans (hx13.trans hx14)))
    clear hx12 hx13 hx14 HSW HSF
    go_wp2_with fail
    refine gQ_normal ?_
    go_wp2_with fail
    rw [show ((a : Nat) : Int) + 1 = ((a + 1 : Nat) : Int) from by omega]
    refine (c_Back us (a + 1) w14 (HS14.out.tabs.ext HS14.out.ext) (by have := HU.out; have := HV.out.1; omega) (by have := HAL.out; omega)).mono ?_
    rintro e w15 ⟨rfl, hx15⟩
    have HS15 := Lib.hid (HS14.out.more hx15)
    clear hx15 HS14
    rw [Nat.add_sub_cancel]
    obtain ⟨n1, hn1⟩ : ∃ n1, eb us.data.toList a = n1 := ⟨_, rfl⟩
    have HN1 := Lib.hid hn1
    rw [hn1]
    clear hn1
    go_wp2_with fail
    go_roundw
    case rel =>
     have hle := eb_le us.data.toList a
     have hed := eb_edge us.data.toList a
     rw [HN1.out] at hle hed
     refine ⟨n1, rfl, Lib.hid ⟨.inr ⟨hed, by have := HAL.out; rw [len_eq]; omega⟩, fun k h1 h2 h3 => ?_⟩, HS15⟩
     rcases Nat.lt_trichotomy k (a + 1) with h | h | h
     ·exact eb_between (n := a) (by rw [HN1.out]; exact h1) (by omega) h3.1.2.2
     ·subst h
      have := HB.out.2 h3
      cases this
     ·exact ha.out.2 k h h2 h3
    case measure =>
     have hle := eb_le us.data.toList a
     rw [HN1.out] at hle
     simp [intOf]
     omega
end Go.Proofs.YteokfknkcbmigaaGreatDoor
end
