/-
  The text of elements.
-/
import Derived.Test.YteokfknkcbmigaaGreatDoorWalkS
import Derived.Test.YteokfknkcbmigaaGreatDoorShelf
import Derived.Lib.Builder
import Derived.Lib.AppendStr
namespace Go.Proofs.YteokfknkcbmigaaGreatDoor
open Go.RowKit Go.Rp Go.Shelf Go.Maps Go.Nm

set_option maxRecDepth 100000 in
set_option maxHeartbeats 2000000 in
theorem c_copy_used (b : Nat) (w : World) (h0 : w.cell? ⟨b, 0, none⟩ = some (.pointer (some ⟨b, 0, none⟩))) :
    Calls Tryz.prog 96 #[.pointer (some ⟨b, 0, none⟩)] w fun e w' => e = .returned (.tuple #[]) ∧ w' = w := by
  obtain ⟨j, hj, hjs⟩ := Option.map_eq_some_iff.1 (Tryz.Builder_Extra_169).sizeBuilder
  go_enter Tryz.func96, Tryz.ntmps96
  go_wp2_with fail
  rw [Lib.run_neq_ptr_same w _ Tryz.underlying122 hj]
  go_wp2_with fail
  go_end0
  exact ⟨rfl, rfl⟩
set_option maxRecDepth 100000 in
set_option maxHeartbeats 2000000 in
theorem c_copy_fresh (b : Nat) (w : World) (h0 : w.cell? ⟨b, 0, none⟩ = some (.pointer none)) (hsh : w.shape? b = some (124, 2)) (hfz : w.frozen? ⟨b, 0, none⟩ = false) :
    Calls Tryz.prog 96 #[.pointer (some ⟨b, 0, none⟩)] w fun e w' => e = .returned (.tuple #[]) ∧ w' = w.setCell ⟨b, 0, none⟩ (.pointer (some ⟨b, 0, none⟩)) := by
  obtain ⟨j, hj, hjs⟩ := Option.map_eq_some_iff.1 (Tryz.Builder_Extra_169).sizeBuilder
  go_enter Tryz.func96, Tryz.ntmps96
  go_wp2_with fail
  rw [Lib.run_to_unsafe w ⟨b, 0, none⟩ Tryz.underlying122 Tryz.underlying161 hj (by rw [hjs]; decide) hsh (Nat.zero_lt_succ 1)]
  simp only [Result.andThen]
  rw [Oper.upon_value]
  go_wp2_with fail
  rw [run_callFunc_extern Tryz.func108 (by kernel_rfl) (by kernel_rfl) (by kernel_rfl) (e := Extern.AbiNoEscape.same) (by kernel_rfl)]
  rw [Lib.run_noEscape]
  simp only [Result.andThen]
  rw [Oper.upon_value]
  go_wp2_with fail
  rw [Lib.run_from_unsafe w ⟨b, 0, none⟩ Tryz.underlying161 Tryz.underlying122 hj hsh (Tryz.Builder_Extra_169).liesBuilder]
  simp only [Result.andThen]
  rw [Oper.upon_value]
  go_wp2_with fail
  go_end0
  exact ⟨rfl, rfl⟩
theorem c_copyCheck (B b : Nat) (bs : List Value) (w : World) (h : Lib.IsBuilder 124 5 B b bs w) :
    Calls Tryz.prog 96 #[.pointer (some ⟨b, 0, none⟩)] w fun e w' => e = .returned (.tuple #[]) ∧ (Lib.BuilderAt 124 5 B b (.pointer (some ⟨b, 0, none⟩)) bs w' ∧ Below B w w') := by
  rcases h with h | h
  · refine (c_copy_fresh b w h.cell0 h.shape h.frozen0).mono ?_
    rintro e w' ⟨rfl, rfl⟩
    exact ⟨rfl, h.used _, (Below.refl B w).setCell (p := ⟨b, 0, none⟩) h.1 _⟩
  · refine (c_copy_used b w h.cell0).mono ?_
    rintro e w' ⟨rfl, rfl⟩
    exact ⟨rfl, h, Below.refl B _⟩
set_option maxHeartbeats 2000000 in
set_option maxRecDepth 100000 in
theorem c_WriteByte (B b : Nat) (bs : List Value) (c : Int) (w : World) (h : Lib.IsBuilder 124 5 B b bs w) (hlen : bs.length + 1 ≤ 140737488355328) (hBw : B ≤ w.heap.size) :
    Calls Tryz.prog 79 #[.pointer (some ⟨b, 0, none⟩), .int .u8 c] w fun e w' => e = .returned .nilIface ∧ (Lib.BuilderAt 124 5 B b (.pointer (some ⟨b, 0, none⟩)) (bs ++ [.int .u8 c]) w' ∧ Below B w w') := by
  obtain ⟨i0, hi, hz0, hz1, hz2⟩ := info_parts (Tryz.Builder_Extra_169).infoByte
  have HLEN := Lib.hid hlen
  clear hlen
  go_enter Tryz.func79, Tryz.ntmps79
  go_wp2_with fail
  refine (c_copyCheck B b bs _ h).mono ?_
  rintro e w1 ⟨rfl, h1, hb1⟩
  obtain ⟨hB, v, hbk, hown, hne⟩ := h1
  have c0 : w1.cell? ⟨b, 0, none⟩ = some (.pointer (some ⟨b, 0, none⟩)) := by rw [Lib.cell_of_heap hbk]; rfl
  have c1 : w1.cell? ⟨b, 1, none⟩ = some v := by rw [Lib.cell_of_heap hbk]; rfl
  clear h
  go_wp2_with (at_builtin; refine wpList_append_own _ rfl _ _ 38 rfl B 5 i0 (.int .u8 0) 1 1 Tryz.underlying38 hi hz0 hz1 hz2 rfl (by decide) _ _ _ rfl (hown.alloc _) ⟨w1.heap.size, 0, none⟩ 1 1 [.int .u8 c] rfl rfl ?c1 ?c2 ?c3 ?c4 ?c5 ?_)
  case c1 =>
    intro j u hj
    match j, hj with
    | 0, hj => simp at hj; subst hj; simp [Addr.add]
  case c2 => intro u hu; simp at hu; subst hu; rfl
  case c3 => have := HLEN.out; unfold maxLen; omega
  case c4 => have := HLEN.out; omega
  case c5 => have := hb1.size; simp; omega
  intro v' w2 hown' hgrow _
  have hlt : b < w1.heap.size := blk_lt hbk
  have hb2 : w2.heap[b]? = some (.cells #[.pointer (some ⟨b, 0, none⟩), v] 124 (0, 0)) := by
    rw [hgrow.block b (by simp; omega) (fun e => hne e.symm), Lib.alloc_old w1 _ b hlt]
    exact hbk
  have d0 : w2.cell? ⟨b, 0, none⟩ = some (.pointer (some ⟨b, 0, none⟩)) := by rw [Lib.cell_of_heap hb2]; rfl
  have d1 : w2.cell? ⟨b, 1, none⟩ = some v := by rw [Lib.cell_of_heap hb2]; rfl
  have f1 : w2.frozen? ⟨b, 1, none⟩ = false := Lib.frozen_of_heap hb2 1
  obtain ⟨g, cap, rfl⟩ : ∃ g cap, v' = .slice (some ⟨g, 0, none⟩) (bs.length + 1) cap := by
    rcases hown'.2 with ⟨_, h0⟩ | ⟨g, cap, cur, hv, _⟩
    · omega
    · exact ⟨g, cap, hv⟩
  go_wp2_with fail
  go_ret
  refine ⟨rfl, ?_, ?_⟩
  · exact Lib.BuilderAt.put (T := 124) (e := 5) hB hb2 (bs' := bs ++ [.int .u8 c]) (by simpa using hown') (Tryz.Builder_Extra_169).neB5
  · exact ((hb1.alloc (by have := hb1.size; omega) _).grown hgrow (by have := hb1.size; simp; omega) (fun k hk => (hown.lt k hk).1)).setCell (p := ⟨b, 1, none⟩) hB _
set_option maxHeartbeats 2000000 in
set_option maxRecDepth 100000 in
theorem c_WriteString (B b : Nat) (bs : List Value) (s : ByteArray) (w : World) (h : Lib.IsBuilder 124 5 B b bs w) (hlen : bs.length + s.size ≤ 140737488355328) (hBw : B ≤ w.heap.size) :
    Calls Tryz.prog 80 #[.pointer (some ⟨b, 0, none⟩), .string s] w fun e w' => e = .returned (.tuple #[.int .i64 s.size, .nilIface]) ∧ (Lib.BuilderAt 124 5 B b (.pointer (some ⟨b, 0, none⟩)) (bs ++ Lib.strCells s) w' ∧ Below B w w') := by
  obtain ⟨i0, hi, hz0, hz1, hz2⟩ := info_parts (Tryz.Builder_Extra_169).infoByte
  have HLEN := Lib.hid hlen
  clear hlen
  go_enter Tryz.func80, Tryz.ntmps80
  go_wp2_with fail
  refine (c_copyCheck B b bs _ h).mono ?_
  rintro e w1 ⟨rfl, h1, hb1⟩
  obtain ⟨hB, v, hbk, hown, hne⟩ := h1
  have c0 : w1.cell? ⟨b, 0, none⟩ = some (.pointer (some ⟨b, 0, none⟩)) := by rw [Lib.cell_of_heap hbk]; rfl
  have c1 : w1.cell? ⟨b, 1, none⟩ = some v := by rw [Lib.cell_of_heap hbk]; rfl
  clear h
  go_wp2_with (at_builtin; refine Lib.wpList_append_own_string _ rfl _ _ 38 9 rfl B 5 i0 Tryz.underlying38 Tryz.underlying9 hi hz0 hz1 hz2 _ _ _ rfl hown s rfl ?c3 ?c4 ?c5 ?_)
  case c3 => have := HLEN.out; unfold maxLen; omega
  case c4 => have := HLEN.out; omega
  case c5 => have := hb1.size; omega
  intro v' w2 hown' hgrow _
  have hlt : b < w1.heap.size := blk_lt hbk
  have hb2 : w2.heap[b]? = some (.cells #[.pointer (some ⟨b, 0, none⟩), v] 124 (0, 0)) := by
    rw [hgrow.block b hlt (fun e => hne e.symm)]
    exact hbk
  have d0 : w2.cell? ⟨b, 0, none⟩ = some (.pointer (some ⟨b, 0, none⟩)) := by rw [Lib.cell_of_heap hb2]; rfl
  have d1 : w2.cell? ⟨b, 1, none⟩ = some v := by rw [Lib.cell_of_heap hb2]; rfl
  have f1 : w2.frozen? ⟨b, 1, none⟩ = false := Lib.frozen_of_heap hb2 1
  obtain ⟨ao, n', cap, rfl⟩ : ∃ ao n' cap, v' = .slice ao n' cap := by
    rcases hown'.2 with ⟨hv, _⟩ | ⟨g, cap, cur, hv, _⟩
    · exact ⟨_, _, _, hv⟩
    · exact ⟨_, _, _, hv⟩
  go_wp2_with fail
  go_ret2
  refine ⟨rfl, ?_, ?_⟩
  · exact Lib.BuilderAt.put (T := 124) (e := 5) hB hb2 (bs' := bs ++ Lib.strCells s) (by simpa [Lib.strCells_length] using hown') (Tryz.Builder_Extra_169).neB5
  · exact (hb1.grown hgrow (by have := hb1.size; omega) (fun k hk => (hown.lt k hk).1)).setCell (p := ⟨b, 1, none⟩) hB _
theorem _root_.Go.Lib.IsBuilder.ext {T e : TypeId} {B b : Nat} {bs : List Value} {w w' : World} (h : Lib.IsBuilder T e B b bs w) (hx : Ext w w') : Lib.IsBuilder T e B b bs w' := by
  rcases h with ⟨hB, v, hb, ho, hn⟩ | ⟨hB, v, hb, ho, hn⟩
  · exact .inl ⟨hB, v, hx.blk hb, ownsRow_ext ho hx, hn⟩
  · exact .inr ⟨hB, v, hx.blk hb, ownsRow_ext ho hx, hn⟩
theorem encB_len (r : Int) : (encB r).length ≤ 4 := by
  unfold encB Utf8.encode
  simp only
  repeat' split
  all_goals simp
theorem out_take {L : List El} {i : Nat} (h : i < L.length) {x : El} (e : L[i] = x) : out (L.take (i + 1)) = out (L.take i) ++ encE (x.r, x.bad) := by
  rw [List.take_add_one, List.getElem?_eq_getElem h, e, out_append]
  simp [out, El.p]
theorem out_len : ∀ L : List El, (out L).length ≤ 4 * L.length
  | [] => by simp [out]
  | x :: t => by
    have e : out (x :: t) = encE (x.r, x.bad) ++ out t := rfl
    have h : (encE (x.r, x.bad)).length ≤ 4 := by
      cases hb : x.bad with
      | true => rw [encE_bad]; simp
      | false => rw [encE_rune]; exact encB_len _
    rw [e, List.length_append, List.length_cons]
    have := out_len t
    omega
/-- What may be put out. -/
def OutOk (x : El) : Prop := (x.bad = true ∧ 0 ≤ x.r ∧ x.r < 256) ∨ (x.bad = false ∧ Utf8.valid x.r = true)
set_option maxRecDepth 100000 in
set_option maxHeartbeats 8000000 in
theorem c_text (L : List El) (n0 : Nat) (v : Value) (w : World) (hrow : w.ownsRow n0 119 3 v L.length (elCells L)) (hL : ∀ x ∈ L, OutOk x) (hl : L.length ≤ 1000000000) :
    Calls Tryz.prog 57 #[v] w fun e w' => e = .returned (.string ⟨(out L).toArray⟩) ∧ Ext w w' := by
  obtain ⟨po, capo, rfl⟩ := own_slice hrow
  have HROW := Lib.hid hrow
  have HL := Lib.hid hL
  have hlI : ((L.length : Nat) : Int) ≤ 1000000000 := by omega
  have hb0 : Lib.IsBuilder 124 5 w.heap.size w.heap.size [] (w.alloc (.cells #[.pointer none, .slice none 0 0] 124)) :=
    .inl ⟨Nat.le_refl _, .slice none 0 0, World.alloc_heap_new w _, World.ownsRow_nil _ _ _ _, by simp [Value.ownBlock]⟩
  have hx0 := (Ext.refl w).alloc (.cells #[.pointer none, .slice none 0 0] 124)
  have H0 := Lib.hid (And.intro hb0 hx0)
  clear hrow hL hb0 hx0
  go_enter Tryz.func57, Tryz.ntmps57
  go_wp2_with fail
  generalize w.alloc (.cells #[.pointer none, .slice none 0 0] 124) = w0 at H0 ⊢
  obtain ⟨bb, hbb⟩ : ∃ bb, w.heap.size = bb := ⟨_, rfl⟩
  have HBB := Lib.hid hbb
  rw [hbb] at H0 ⊢
  clear hbb
  go_loopw [8] (fun iv W => ∃ i : Nat, iv = .int .i64 (i : Nat) ∧ i ≤ L.length ∧ Hid (Lib.IsBuilder 124 5 bb bb (Lib.byteCells (out (L.take i))) W) ∧ Ext w W) (fun iv _ => L.length + 1 - (intOf iv).toNat)
  case atStart => exact ⟨0, rfl, by omega, Lib.hid H0.out.1, H0.out.2⟩
  case round =>
    clear H0
    obtain ⟨i, rfl, hi, hB, hx⟩ := hrel
    by_cases hlt : i < L.length
    · have hiI : ((i : Nat) : Int) < (L.length : Nat) := by omega
      have hd : decide (i < L.length) = true := decide_eq_true hlt
      obtain ⟨g, hpe, hg0, hg1, hgc⟩ := own_at HROW.out (by omega)
      subst hpe
      obtain ⟨a0, a1, a2⟩ := elCells_get L i hlt
      have c0 := hx.cell ((hgc (i * 3) (by omega)).trans a0)
      have c1 := hx.cell ((hgc (i * 3 + 1) (by omega)).trans a1)
      have c2 := hx.cell ((hgc (i * 3 + 2) (by omega)).trans a2)
      clear a0 a1 a2 hgc hg0 hg1
      have hxk := HL.out L[i] (List.getElem_mem hlt)
      obtain ⟨x, hx0⟩ : ∃ x, L[i] = x := ⟨_, rfl⟩
      have HTK := Lib.hid (out_take hlt hx0)
      rw [hx0] at c0 c1 c2 hxk
      obtain ⟨xr, hxr⟩ : ∃ xr, x.r = xr := ⟨_, rfl⟩
      obtain ⟨xo, hxo⟩ : ∃ xo, x.ord = xo := ⟨_, rfl⟩
      rw [hxr] at c0
      rw [hxo] at c1
      have HXK := Lib.hid hxk
      have HXR := Lib.hid hxr
      clear hxk hx0 hxr hxo
      have HO := Lib.hid (out_len (L.take i))
      by_cases hb : x.bad = true
      · rw [if_pos hb] at c2
        have HE := Lib.hid (show Lib.byteCells (out (L.take (i + 1))) = Lib.byteCells (out (L.take i)) ++ [.int .u8 (xr % 256)] by
          rw [HTK.out, HXR.out, hb, encE_bad]
          have h : 0 ≤ xr ∧ xr < 256 := by
            rcases HXK.out with h | h
            · rw [← HXR.out]; exact h.2
            · rw [hb] at h; cases h.1
          have e : ((UInt8.ofNat xr.toNat).toNat : Int) = xr % 256 := by
            rw [UInt8.toNat_ofNat']; omega
          simp only [Lib.byteCells, List.map_append, List.map_cons, List.map_nil, e])
        clear hb
        go_wp2_with fail
        have hB1 := Lib.IsBuilder.ext hB.out ((Ext.refl wr).alloc (.cells #[.int .i32 xr, .int .i64 xo, .int .i64 1] 119))
        have hx1 := hx.alloc (.cells #[.int .i32 xr, .int .i64 xo, .int .i64 1] 119)
        generalize wr.alloc (.cells #[.int .i32 xr, .int .i64 xo, .int .i64 1] 119) = w1 at hB1 hx1 ⊢
        generalize wr.heap.size = xb
        refine (c_WriteByte bb bb _ (xr % 256) w1 hB1 (by have := HO.out; rw [Lib.byteCells_length]; simp only [List.length_take] at this; omega) (by have := hx1.sz; have := HBB.out; omega)).mono ?_
        rintro e w2 ⟨rfl, hB2, hx2⟩
        rw [← HE.out] at hB2
        have H2 := Lib.hid (show Lib.IsBuilder 124 5 bb bb (Lib.byteCells (out (L.take (i + 1)))) w2 ∧ Ext w w2 from ⟨.inr hB2, Ext.of (Below.trans hx1.below (by rw [HBB.out]; exact hx2))⟩)
        clear hB1 hx1 hB2 hx2 c0 c1 c2 hB hx
        go_wp2_with fail
        go_roundw
        case rel => exact ⟨i + 1, by simp, by omega, Lib.hid H2.out.1, H2.out.2⟩
        case measure => simp [intOf]; omega
      · rw [if_neg hb] at c2
        have hbf : x.bad = false := by simpa using hb
        have HV := Lib.hid (show Utf8.valid xr = true by
          rcases HXK.out with h | h
          · exact absurd h.1 hb
          · rw [← HXR.out]; exact h.2)
        have HE := Lib.hid (show Lib.byteCells (out (L.take (i + 1))) = Lib.byteCells (out (L.take i)) ++ Lib.strCells (Utf8.encode xr) by
          rw [HTK.out, HXR.out, hbf, encE_rune]
          simp only [Lib.byteCells, List.map_append]
          rfl)
        clear hb hbf
        go_wp2_with fail
        have hB1 := Lib.IsBuilder.ext hB.out ((Ext.refl wr).alloc (.cells #[.int .i32 xr, .int .i64 xo, .int .i64 0] 119))
        have hx1 := hx.alloc (.cells #[.int .i32 xr, .int .i64 xo, .int .i64 0] 119)
        generalize wr.alloc (.cells #[.int .i32 xr, .int .i64 xo, .int .i64 0] 119) = w1 at hB1 hx1 ⊢
        generalize wr.heap.size = xb
        refine (c_Encode xr w1 HV.out).mono ?_
        rintro e w3 ⟨rfl, hx3⟩
        replace hB1 := Lib.IsBuilder.ext hB1 hx3
        replace hx1 := Ext.trans hx1 hx3
        have hel := encB_len xr
        have hel2 : (Utf8.encode xr).size = (encB xr).length := by simp [encB]
        have HEL := Lib.hid (show (Utf8.encode xr).size ≤ 4 by omega)
        obtain ⟨es, hes⟩ : ∃ es, Utf8.encode xr = es := ⟨_, rfl⟩
        rw [hes] at HE HEL ⊢
        have HB1 := Lib.hid hB1
        have HX1 := Lib.hid hx1
        clear hx3 hel hel2 hes hB1 hx1 c0 c1 c2 hB hx
        go_wp2_with fail
        refine (c_WriteString bb bb _ es w3 HB1.out (by have := HO.out; have := HEL.out; rw [Lib.byteCells_length]; simp only [List.length_take] at *; omega) (by have := HX1.out.sz; have := HBB.out; omega)).mono ?_
        rintro e w2 ⟨rfl, hB2, hx2⟩
        rw [← HE.out] at hB2
        have H2 := Lib.hid (show Lib.IsBuilder 124 5 bb bb (Lib.byteCells (out (L.take (i + 1)))) w2 ∧ Ext w w2 from ⟨.inr hB2, Ext.of (Below.trans HX1.out.below (by rw [HBB.out]; exact hx2))⟩)
        clear hB2 hx2
        go_wp2_with fail
        go_roundw
        case rel => exact ⟨i + 1, by simp, by omega, Lib.hid H2.out.1, H2.out.2⟩
        case measure => simp [intOf]; omega
    · have hd : decide (i < L.length) = false := decide_eq_false hlt
      have hB9 := hB.out
      rw [List.take_of_length_le (by omega)] at hB9
      have HB9 := Lib.hid hB9
      clear hB9 hB
      go_wp2_with fail
      refine (Tryz.Builder_String_any bb bb (out L) wr HB9.out (by have := hx.sz; have := HBB.out; omega)).mono ?_
      rintro e w2 ⟨rfl, hx2⟩
      have HX2 := Lib.hid (show Ext w w2 from Ext.of (Below.trans hx.below (by rw [HBB.out]; exact hx2)))
      clear hx2 hx
      go_wp2_with fail
      go_ret
      exact ⟨rfl, HX2.out⟩
end Go.Proofs.YteokfknkcbmigaaGreatDoor
