/-
  How many bytes of a text are whole runes.
-/
import Derived.Test.YteokfknkcbmigaaGreatDoorWalkW
namespace Go.Proofs.YteokfknkcbmigaaGreatDoor
open Go.RowKit Go.Rp Go.Shelf Go.Maps Go.Nm

theorem heldGo_len : ∀ (n : Nat) (l : List UInt8), (heldGo n l).length ≤ l.length
  | 0, l => Nat.le_refl _
  | n + 1, l => by
    rw [heldGo]
    split
    · exact Nat.le_refl _
    · refine Nat.le_trans (heldGo_len n _) ?_
      rw [List.length_drop]; omega
theorem heldL_len (l : List UInt8) : (heldL l).length ≤ l.length := heldGo_len _ l
set_option maxRecDepth 100000 in
set_option maxHeartbeats 8000000 in
theorem c_Feed (xB pb pc : Nat) (l : List UInt8) (W0 w : World) (hT : Tabs W0) (hx0 : Ext W0 w) (hxB : W0.heap.size ≤ xB) (hbk : w.heap[xB]? = some (.cells #[.slice none 0 0, .int .i64 0] 128 (0, 0))) (hp : ∀ j (h : j < l.length), w.cell? ⟨pb, j, none⟩ = some (.int .u8 l[j].toNat)) (hl : l.length ≤ 1000000) (h0 : 0 < l.length) :
    Calls Tryz.prog 65 #[.pointer (some ⟨xB, 0, none⟩), .slice (some ⟨pb, 0, none⟩) l.length pc] w fun e w' => ∃ u v', e = .returned u ∧ w'.heap[xB]? = some (.cells #[v', .int .i64 (l.length : Nat)] 128 (0, 0)) ∧ (∃ p c, v' = .slice p (heldL l).length c) ∧ Ext W0 w' := by
  obtain ⟨j0, hj0, hy0, hy1, hy3⟩ := info_parts info_u8
  have hlI : ((l.length : Nat) : Int) ≤ 1000000 := by omega
  have HL0 := Lib.hid h0
  have d0 : w.cell? ⟨xB, 0, none⟩ = some (.slice none 0 0) := (cell_blk hbk 0).trans rfl
  have hxb : xB < w.heap.size := blk_lt hbk
  have HBK := Lib.hid hbk
  have hnew : ∀ j u, (Lib.byteCells l)[j]? = some u → w.cell? ((⟨pb, 0, none⟩ : Addr).add j) = some u := fun j u hu => by
    have hj : j < l.length := by
      have := (List.getElem?_eq_some_iff.1 hu).1
      rw [Lib.byteCells_length] at this
      exact this
    have hadd : (⟨pb, 0, none⟩ : Addr).add j = ⟨pb, j, none⟩ := by unfold Addr.add; split <;> simp_all
    rw [hadd, hp j hj, ← hu]
    unfold Lib.byteCells
    rw [List.getElem?_map, List.getElem?_eq_getElem hj]
    rfl
  have HNEW := Lib.hid hnew
  clear hp hbk hnew h0
  go_enter Tryz.func65, Tryz.ntmps65
  go_wp2_with (at_builtin; refine Hid.out ?_)
  refine Lib.hid ?_
  refine wpList_append_own _ rfl (.tmp 11) (.tmp 12) 38 rfl w.heap.size 5 j0 (.int .u8 0) 1 1 Tryz.underlying38 hj0 hy0 hy1 hy3 rfl (by decide) _ 0 [] rfl (World.ownsRow_nil _ _ _ _) ⟨pb, 0, none⟩ l.length pc (Lib.byteCells l) rfl (by rw [Lib.byteCells_length, Nat.mul_one]) HNEW.out (by intro u hu; obtain ⟨b, _, rfl⟩ := List.mem_map.1 hu; rfl) (by unfold maxLen; omega) (by omega) (Nat.le_refl _) ?_
  intro v' w8 hown8 hgrow8 _
  rw [Nat.zero_add, List.nil_append] at hown8
  obtain ⟨p8, c8, rfl⟩ := own_slice hown8
  obtain ⟨g8, rfl, hg80, hg81, _⟩ := own_at hown8 HL0.out
  have hx8 : Ext w w8 := Below.grown (Ext.refl w) hgrow8 (Nat.le_refl _) (fun k e => by cases e)
  have hb8 := hx8.blk HBK.out
  have f0 := frz_blk hb8 0
  have d8 : w8.cell? ⟨xB, 0, none⟩ = some (.slice none 0 0) := (cell_blk hb8 0).trans rfl
  have hb9 := set_blk hb8 0 (.slice (some ⟨g8, 0, none⟩) l.length c8)
  have hown9 := ownsRow_setCell_other hown8 (a := ⟨xB, 0, none⟩) (by intro e; have h2 : some g8 = some xB := e; have h3 := Option.some.inj h2; omega) (.slice (some ⟨g8, 0, none⟩) l.length c8)
  have hx9 := (hx0.trans hx8).setCell (p := ⟨xB, 0, none⟩) hxB (.slice (some ⟨g8, 0, none⟩) l.length c8)
  have f1 := frz_blk hb9 1
  have e1 : (w8.setCell ⟨xB, 0, none⟩ (.slice (some ⟨g8, 0, none⟩) l.length c8)).cell? ⟨xB, 1, none⟩ = some (.int .i64 0) := (cell_blk hb9 1).trans rfl
  have hb10 := set_blk hb9 1 (.int .i64 (l.length : Nat))
  have hown10 := ownsRow_setCell_other hown9 (a := ⟨xB, 1, none⟩) (by intro e; have h2 : some g8 = some xB := e; have h3 := Option.some.inj h2; omega) (.int .i64 (l.length : Nat))
  have hx10 := hx9.setCell (p := ⟨xB, 1, none⟩) hxB (.int .i64 (l.length : Nat))
  have H10 := Lib.hid (And.intro hb10 (And.intro hown10 hx10))
  clear hb10 hown10 hx10 hx9 hown9 hb9 hb8 hx8 hown8 hgrow8 hg80 hg81 hxb
  go_wp2_with fail
  generalize (w8.setCell ⟨xB, 0, none⟩ (.slice (some ⟨g8, 0, none⟩) l.length c8)).setCell ⟨xB, 1, none⟩ (.int .i64 (l.length : Nat)) = w10 at H10 ⊢
  refine (c_marks xB w.heap.size g8 c8 l w10 (hT.ext H10.out.2.2) H10.out.1 H10.out.2.1 hl HL0.out).mono ?_
  rintro e w11 ⟨u, v', rfl, hb11, hv11, hg11⟩
  have HE := Lib.hid (show Ext W0 w11 from Below.grown H10.out.2.2 hg11 H10.out.2.2.sz (fun k e => by have h3 := Option.some.inj e; omega))
  have HF := Lib.hid (And.intro hb11 hv11)
  clear hb11 hv11 hg11 f0 d8 f1 e1 d0
  go_wp2_with fail
  go_ret
  exact ⟨_, _, rfl, HF.out.1, HF.out.2, HE.out⟩
set_option maxRecDepth 100000 in
set_option maxHeartbeats 2000000 in
theorem c_NewScanner (w : World) : Calls Tryz.prog 64 #[] w fun e w' => e = .returned (.pointer (some ⟨w.heap.size, 0, none⟩)) ∧ w' = w.alloc (.cells #[.slice none 0 0, .int .i64 0] 128) := by
  go_enter Tryz.func64, Tryz.ntmps64
  go_wp2_with fail
  go_ret
  exact ⟨rfl, rfl⟩
set_option maxRecDepth 100000 in
set_option maxHeartbeats 2000000 in
theorem c_ScHeld (xB n c : Nat) (p : Option Addr) (u : Value) (w : World) (hbk : w.heap[xB]? = some (.cells #[.slice p n c, u] 128 (0, 0))) : Calls Tryz.prog 66 #[.pointer (some ⟨xB, 0, none⟩)] w fun e w' => e = .returned (.int .i64 (n : Nat)) ∧ w' = w := by
  have d0 : w.cell? ⟨xB, 0, none⟩ = some (.slice p n c) := (cell_blk hbk 0).trans rfl
  clear hbk
  go_enter Tryz.func66, Tryz.ntmps66
  go_wp2_with fail
  go_ret
  exact ⟨rfl, rfl⟩
theorem max_back (n : Nat) : max (0 : Int) ((n : Nat) - 3) = ((n - 3 : Nat) : Int) := by omega
set_option maxRecDepth 100000 in
set_option maxHeartbeats 8000000 in
theorem c_whole (s : ByteArray) (w : World) (hT : Tabs w) (hs : s.size ≤ 1000000) (h0 : 0 < s.size) :
    Calls Tryz.prog 41 #[.string s] w fun e w' => e = .returned (.int .i64 ((s.size - (heldL (s.data.toList.drop (s.size - 3))).length : Nat) : Int)) ∧ Ext w w' := by
  have hsI : ((s.size : Nat) : Int) ≤ 1000000 := by omega
  have hmx := max_back s.size
  obtain ⟨k, hk⟩ : ∃ k, s.size - 3 = k := ⟨_, rfl⟩
  have hkl : k < s.size := by omega
  rw [hk] at hmx ⊢
  have hkI : ((k : Nat) : Int) ≤ (s.size : Nat) := by omega
  have hxt : (s.extract k s.size).data.toList = s.data.toList.drop k := by rw [toList_extract, take_all (by rw [List.length_drop, len_eq]; exact Nat.le_refl _)]
  clear hk
  obtain ⟨t, ht⟩ : ∃ t, s.extract k s.size = t := ⟨_, rfl⟩
  rw [ht] at hxt
  have htl : t.size = s.size - k := by have := congrArg List.length hxt; rw [len_eq, List.length_drop, len_eq] at this; exact this
  have hbh : (heldL (s.data.toList.drop k)).length ≤ s.size := by
    have := heldL_len (s.data.toList.drop k); rw [List.length_drop, len_eq] at this; omega
  rw [← hxt] at hbh ⊢
  have HT := Lib.hid (And.intro htl hkl)
  have HBH := Lib.hid hbh
  have htI : ((t.size : Nat) : Int) ≤ 1000000 := by omega
  have hcv := fun w => Lib.run_convert_string_bytes (P := Tryz.prog) w 9 38 5 t Tryz.underlying9 Tryz.underlying38 Tryz.underlying5
  obtain ⟨hn, hhn⟩ : ∃ hn, (heldL t.data.toList).length = hn := ⟨_, rfl⟩
  have HHN := Lib.hid hhn
  rw [hhn] at HBH ⊢
  clear hbh htl hxt hkl hhn
  go_enter Tryz.func41, Tryz.ntmps41
  go_wp2_with fail
  clear ht hmx
  refine (c_NewScanner w).mono ?_
  rintro e w1 ⟨rfl, rfl⟩
  have hb1 := World.alloc_heap_new w (.cells #[.slice none 0 0, .int .i64 0] 128)
  have hx1 := (Ext.refl w).alloc (.cells #[.slice none 0 0, .int .i64 0] 128)
  generalize w.alloc (.cells #[.slice none 0 0, .int .i64 0] 128) = w1 at hb1 hx1 ⊢
  obtain ⟨xB, hxB⟩ : ∃ xB, w.heap.size = xB := ⟨_, rfl⟩
  have HXB := Lib.hid (show w.heap.size ≤ xB by omega)
  rw [hxB] at hb1 ⊢
  have H1 := Lib.hid (And.intro hb1 hx1)
  clear hb1 hx1 hxB
  go_wp2_with fail
  obtain ⟨hxb, hcb⟩ := bytes_of w1 5 t
  generalize Lib.bytesWorld w1 5 t = w2 at hxb hcb ⊢
  generalize w1.heap.size = pb at hcb ⊢
  have hfd := fun pc => c_Feed xB pb pc t.data.toList w w2 hT (H1.out.2.trans hxb) HXB.out (hxb.blk H1.out.1) hcb (by rw [len_eq]; omega) (by rw [len_eq]; have := HT.out; omega)
  simp only [len_eq] at hfd
  refine (hfd _).mono ?_
  rintro e w3 ⟨u, v', rfl, hb3, ⟨p3, c3, rfl⟩, hx3⟩
  rw [HHN.out] at hb3
  have H3 := Lib.hid (And.intro hb3 hx3)
  clear hb3 hx3 hfd hcb hxb hcv
  go_wp2_with fail
  refine (c_ScHeld xB hn c3 p3 _ w3 H3.out.1).mono ?_
  rintro e w4 ⟨rfl, e4⟩
  obtain rfl := e4.symm
  clear e4
  have hsub : ((s.size : Nat) : Int) - (hn : Nat) = ((s.size - hn : Nat) : Int) := by have := HBH.out; omega
  have HSUB := Lib.hid hsub
  have hhI : ((hn : Nat) : Int) ≤ 1000000 := by have := HBH.out; omega
  clear hsub
  go_wp2_with fail
  go_ret
  exact ⟨congrArg (fun z => Ending.returned (Value.int .i64 z)) HSUB.out, H3.out.2⟩
end Go.Proofs.YteokfknkcbmigaaGreatDoor
