/-
 The text of elements. A text in a form.
-/
import Derived.Test.YtokeamebcdhnpaaGreatDoorWalkS
import Derived.Test.YtokeamebcdhnpaaGreatDoorShelfs
import Derived.Lib.Builder
import Derived.Lib.AppendStr
section
namespace Go.Proofs.YtokeamebcdhnpaaGreatDoor
open Go.RowKit Go.Rp Go.Shelf Go.Maps Go.Nm

set_option maxRecDepth 100000 in
set_option maxHeartbeats 2000000 in
theorem c_copy_used (b : Nat) (w : World) (h0 : w.cell? ⟨b, 0, none⟩ = some (.pointer (some ⟨b, 0, none⟩))) :
  Calls Tryz.prog 120 #[.pointer (some ⟨b, 0, none⟩)] w fun e w' => e = .returned (.tuple #[]) ∧ w' = w := by
 obtain ⟨j, hj, hjs⟩ := Option.map_eq_some_iff.1 (Tryz.Builder_Extra_169).sizeBuilder
 go_enter Tryz.func120, Tryz.ntmps120
 go_wp2_with fail
 rw [Lib.run_neq_ptr_same w _ Tryz.underlying149 hj]
 go_wp2_with fail
 go_end0
 exact ⟨rfl, rfl⟩
set_option maxRecDepth 100000 in
set_option maxHeartbeats 2000000 in
theorem c_copy_fresh (b : Nat) (w : World) (h0 : w.cell? ⟨b, 0, none⟩ = some (.pointer none)) (hsh : w.shape? b = some (151, 2)) (hfz : w.frozen? ⟨b, 0, none⟩ = false) :
  Calls Tryz.prog 120 #[.pointer (some ⟨b, 0, none⟩)] w fun e w' => e = .returned (.tuple #[]) ∧ w' = w.setCell ⟨b, 0, none⟩ (.pointer (some ⟨b, 0, none⟩)) := by
 obtain ⟨j, hj, hjs⟩ := Option.map_eq_some_iff.1 (Tryz.Builder_Extra_169).sizeBuilder
 go_enter Tryz.func120, Tryz.ntmps120
 go_wp2_with fail
 rw [Lib.run_to_unsafe w ⟨b, 0, none⟩ Tryz.underlying149 Tryz.underlying197 hj (by rw [hjs]; decide) hsh (Nat.zero_lt_succ 1)]
 simp only [Result.andThen]
 rw [Oper.upon_value]
 go_wp2_with fail
 rw [run_callFunc_extern Tryz.func138 (by kernel_rfl) (by kernel_rfl) (by kernel_rfl) (e := Extern.AbiNoEscape.same) (by kernel_rfl)]
 rw [Lib.run_noEscape]
 simp only [Result.andThen]
 rw [Oper.upon_value]
 go_wp2_with fail
 rw [Lib.run_from_unsafe w ⟨b, 0, none⟩ Tryz.underlying197 Tryz.underlying149 hj hsh (Tryz.Builder_Extra_169).liesBuilder]
 simp only [Result.andThen]
 rw [Oper.upon_value]
 go_wp2_with fail
 go_end0
 exact ⟨rfl, rfl⟩
theorem c_copyCheck (B b : Nat) (bs : List Value) (w : World) (h : Lib.IsBuilder 151 5 B b bs w) :
  Calls Tryz.prog 120 #[.pointer (some ⟨b, 0, none⟩)] w fun e w' => e = .returned (.tuple #[]) ∧ (Lib.BuilderAt 151 5 B b (.pointer (some ⟨b, 0, none⟩)) bs w' ∧ Below B w w') := by
 rcases h with h | h
 ·refine (c_copy_fresh b w h.cell0 h.shape h.frozen0).mono ?_
  rintro e w' ⟨rfl, rfl⟩
  exact ⟨rfl, h.used _, (Below.refl B w).setCell (p := ⟨b, 0, none⟩) h.1 _⟩
 ·refine (c_copy_used b w h.cell0).mono ?_
  rintro e w' ⟨rfl, rfl⟩
  exact ⟨rfl, h, Below.refl B _⟩
set_option maxHeartbeats 2000000 in
set_option maxRecDepth 100000 in
theorem c_WriteByte (B b : Nat) (bs : List Value) (c : Int) (w : World) (h : Lib.IsBuilder 151 5 B b bs w) (hlen : bs.length + 1 ≤ 140737488355328) (hBw : B ≤ w.heap.size) :
  Calls Tryz.prog 92 #[.pointer (some ⟨b, 0, none⟩), .int .u8 c] w fun e w' => e = .returned .nilIface ∧ (Lib.BuilderAt 151 5 B b (.pointer (some ⟨b, 0, none⟩)) (bs ++ [.int .u8 c]) w' ∧ Below B w w') := by
 obtain ⟨i0, hi, hz0, hz1, hz2⟩ := info_parts (Tryz.Builder_Extra_169).infoByte
 have HLEN := Lib.hid hlen
 clear hlen
 go_enter Tryz.func92, Tryz.ntmps92
 go_wp2_with fail
 refine (c_copyCheck B b bs _ h).mono ?_
 rintro e w1 ⟨rfl, h1, hb1⟩
 obtain ⟨hB, v, hbk, hown, hne⟩ := h1
 have c0 : w1.cell? ⟨b, 0, none⟩ = some (.pointer (some ⟨b, 0, none⟩)) := by rw [Lib.cell_of_heap hbk]; rfl
 have c1 : w1.cell? ⟨b, 1, none⟩ = some v := by rw [Lib.cell_of_heap hbk]; rfl
 clear h
 go_wp2_with (at_builtin; refine wpList_append_own _ rfl _ _ 34 rfl B 5 i0 (.int .u8 0) 1 1 Tryz.underlying34 hi hz0 hz1 hz2 rfl (by decide) _ _ _ rfl (hown.alloc _) ⟨w1.heap.size, 0, none⟩ 1 1 [.int .u8 c] rfl rfl ?c1 ?c2 ?c3 ?c4 ?c5 ?_)
 case c1 =>
  intro j u hj
  match j, hj with
  | 0, hj => simp at hj; subst hj; simp [Addr.add]
 case c2 => intro u hu; simp at hu; subst hu; rfl
 case c3 => have := HLEN.out; unfold maxLen; omega
 case c4 => have := HLEN.out; omega
 case c5 => have := hb1.size; simp; omega
 intro v' w2 hown' hgrow _
 have hlt : b < w1.heap.size := blk_lt hbk
 have hb2 : w2.heap[b]? = some (.cells #[.pointer (some ⟨b, 0, none⟩), v] 151 (0, 0)) := by
  rw [hgrow.block b (by simp; omega) (fun e => hne e.symm), Lib.alloc_old w1 _ b hlt]
  exact hbk
 have d0 : w2.cell? ⟨b, 0, none⟩ = some (.pointer (some ⟨b, 0, none⟩)) := by rw [Lib.cell_of_heap hb2]; rfl
 have d1 : w2.cell? ⟨b, 1, none⟩ = some v := by rw [Lib.cell_of_heap hb2]; rfl
 have f1 : w2.frozen? ⟨b, 1, none⟩ = false := Lib.frozen_of_heap hb2 1
 obtain ⟨g, cap, rfl⟩ : ∃ g cap, v' = .slice (some ⟨g, 0, none⟩) (bs.length + 1) cap := by
  rcases hown'.2 with ⟨_, h0⟩ | ⟨g, cap, cur, hv, _⟩
  ·omega
  ·exact ⟨g, cap, hv⟩
 go_wp2_with fail
 go_ret
 refine ⟨rfl, ?_, ?_⟩
 ·exact Lib.BuilderAt.put (T := 151) (e := 5) hB hb2 (bs' := bs ++ [.int .u8 c]) (by simpa using hown') (Tryz.Builder_Extra_169).neB5
 ·exact ((hb1.alloc (by have := hb1.size; omega) _).grown hgrow (by have := hb1.size; simp; omega) (fun k hk => (hown.lt k hk).1)).setCell (p := ⟨b, 1, none⟩) hB _
set_option maxHeartbeats 2000000 in
set_option maxRecDepth 100000 in
theorem c_WriteString (B b : Nat) (bs : List Value) (s : ByteArray) (w : World) (h : Lib.IsBuilder 151 5 B b bs w) (hlen : bs.length + s.size ≤ 140737488355328) (hBw : B ≤ w.heap.size) :
  Calls Tryz.prog 93 #[.pointer (some ⟨b, 0, none⟩), .string s] w fun e w' => e = .returned (.tuple #[.int .i64 s.size, .nilIface]) ∧ (Lib.BuilderAt 151 5 B b (.pointer (some ⟨b, 0, none⟩)) (bs ++ Lib.strCells s) w' ∧ Below B w w') := by
 obtain ⟨i0, hi, hz0, hz1, hz2⟩ := info_parts (Tryz.Builder_Extra_169).infoByte
 have HLEN := Lib.hid hlen
 clear hlen
 go_enter Tryz.func93, Tryz.ntmps93
 go_wp2_with fail
 refine (c_copyCheck B b bs _ h).mono ?_
 rintro e w1 ⟨rfl, h1, hb1⟩
 obtain ⟨hB, v, hbk, hown, hne⟩ := h1
 have c0 : w1.cell? ⟨b, 0, none⟩ = some (.pointer (some ⟨b, 0, none⟩)) := by rw [Lib.cell_of_heap hbk]; rfl
 have c1 : w1.cell? ⟨b, 1, none⟩ = some v := by rw [Lib.cell_of_heap hbk]; rfl
 clear h
 go_wp2_with (at_builtin; refine Lib.wpList_append_own_string _ rfl _ _ 34 9 rfl B 5 i0 Tryz.underlying34 Tryz.underlying9 hi hz0 hz1 hz2 _ _ _ rfl hown s rfl ?c3 ?c4 ?c5 ?_)
 case c3 => have := HLEN.out; unfold maxLen; omega
 case c4 => have := HLEN.out; omega
 case c5 => have := hb1.size; omega
 intro v' w2 hown' hgrow _
 have hlt : b < w1.heap.size := blk_lt hbk
 have hb2 : w2.heap[b]? = some (.cells #[.pointer (some ⟨b, 0, none⟩), v] 151 (0, 0)) := by
  rw [hgrow.block b hlt (fun e => hne e.symm)]
  exact hbk
 have d0 : w2.cell? ⟨b, 0, none⟩ = some (.pointer (some ⟨b, 0, none⟩)) := by rw [Lib.cell_of_heap hb2]; rfl
 have d1 : w2.cell? ⟨b, 1, none⟩ = some v := by rw [Lib.cell_of_heap hb2]; rfl
 have f1 : w2.frozen? ⟨b, 1, none⟩ = false := Lib.frozen_of_heap hb2 1
 obtain ⟨ao, n', cap, rfl⟩ : ∃ ao n' cap, v' = .slice ao n' cap := by
  rcases hown'.2 with ⟨hv, _⟩ | ⟨g, cap, cur, hv, _⟩
  ·exact ⟨_, _, _, hv⟩
  ·exact ⟨_, _, _, hv⟩
 go_wp2_with fail
 go_ret2
 refine ⟨rfl, ?_, ?_⟩
 ·exact Lib.BuilderAt.put (T := 151) (e := 5) hB hb2 (bs' := bs ++ Lib.strCells s) (by simpa [Lib.strCells_length] using hown') (Tryz.Builder_Extra_169).neB5
 ·exact (hb1.grown hgrow (by have := hb1.size; omega) (fun k hk => (hown.lt k hk).1)).setCell (p := ⟨b, 1, none⟩) hB _
theorem _root_.Go.Lib.IsBuilder.ext {T e : TypeId} {B b : Nat} {bs : List Value} {w w' : World} (h : Lib.IsBuilder T e B b bs w) (hx : Ext w w') : Lib.IsBuilder T e B b bs w' := by
 rcases h with ⟨hB, v, hb, ho, hn⟩ | ⟨hB, v, hb, ho, hn⟩
 ·exact .inl ⟨hB, v, hx.blk hb, ownsRow_ext ho hx, hn⟩
 ·exact .inr ⟨hB, v, hx.blk hb, ownsRow_ext ho hx, hn⟩
theorem encB_len (r : Int) : (encB r).length ≤ 4 := by
 unfold encB Utf8.encode
 simp only
 repeat' split
 all_goals simp
theorem out_take {L : List El} {i : Nat} (h : i < L.length) {x : El} (e : L[i] = x) : out (L.take (i + 1)) = out (L.take i) ++ encE (x.r, x.bad) := by
 rw [List.take_add_one, List.getElem?_eq_getElem h, e, out_append]
 simp [out, El.p]
theorem out_len : ∀ L : List El, (out L).length ≤ 4 * L.length
 | [] => by simp [out]
 | x :: t => by
  have e : out (x :: t) = encE (x.r, x.bad) ++ out t := rfl
  have h : (encE (x.r, x.bad)).length ≤ 4 := by
   cases hb : x.bad with
   | true => rw [encE_bad]; simp
   | false => rw [encE_rune]; exact encB_len _
  rw [e, List.length_append, List.length_cons]
  have := out_len t
  omega
/-- What may be put out. -/
def OutOk (x : El) : Prop := (x.bad = true ∧ 0 ≤ x.r ∧ x.r < 256) ∨ (x.bad = false ∧ Utf8.valid x.r = true)
set_option maxRecDepth 100000 in
set_option maxHeartbeats 8000000 in
theorem c_text (L : List El) (n0 : Nat) (v : Value) (w : World) (hrow : w.ownsRow n0 146 3 v L.length (elCells L)) (hL : ∀ x ∈ L, OutOk x) (hl : L.length ≤ 1000000000) :
  Calls Tryz.prog 68 #[v] w fun e w' => e = .returned (.string ⟨(out L).toArray⟩) ∧ Ext w w' := by
 obtain ⟨po, capo, rfl⟩ := own_slice hrow
 have HROW := Lib.hid hrow
 have HL := Lib.hid hL
 have hlI : ((L.length : Nat) : Int) ≤ 1000000000 := by omega
 have hb0 : Lib.IsBuilder 151 5 w.heap.size w.heap.size [] (w.alloc (.cells #[.pointer none, .slice none 0 0] 151)) :=
  .inl ⟨Nat.le_refl _, .slice none 0 0, World.alloc_heap_new w _, World.ownsRow_nil _ _ _ _, by simp [Value.ownBlock]⟩
 have hx0 := (Ext.refl w).alloc (.cells #[.pointer none, .slice none 0 0] 151)
 have H0 := Lib.hid (And.intro hb0 hx0)
 clear hrow hL hb0 hx0
 go_enter Tryz.func68, Tryz.ntmps68
 go_wp2_with fail
 generalize w.alloc (.cells #[.pointer none, .slice none 0 0] 151) = w0 at H0 ⊢
 obtain ⟨bb, hbb⟩ : ∃ bb, w.heap.size = bb := ⟨_, rfl⟩
 have HBB := Lib.hid hbb
 rw [hbb] at H0 ⊢
 clear hbb
 go_loopw [8] (fun iv W => ∃ i : Nat, iv = .int .i64 (i : Nat) ∧ i ≤ L.length ∧ Hid (Lib.IsBuilder 151 5 bb bb (Lib.byteCells (out (L.take i))) W) ∧ Ext w W) (fun iv _ => L.length + 1 - (intOf iv).toNat)
 case atStart => exact ⟨0, rfl, by omega, Lib.hid H0.out.1, H0.out.2⟩
 case round =>
  clear H0
  obtain ⟨i, rfl, hi, hB, hx⟩ := hrel
  by_cases hlt : i < L.length
  ·have hiI : ((i : Nat) : Int) < (L.length : Nat) := by omega
   have hd : decide (i < L.length) = true := decide_eq_true hlt
   obtain ⟨g, hpe, hg0, hg1, hgc⟩ := own_at HROW.out (by omega)
   subst hpe
   obtain ⟨a0, a1, a2⟩ := elCells_get L i hlt
   have c0 := hx.cell ((hgc (i * 3) (by omega)).trans a0)
   have c1 := hx.cell ((hgc (i * 3 + 1) (by omega)).trans a1)
   have c2 := hx.cell ((hgc (i * 3 + 2) (by omega)).trans a2)
   clear a0 a1 a2 hgc hg0 hg1
   have hxk := HL.out L[i] (List.getElem_mem hlt)
   obtain ⟨x, hx0⟩ : ∃ x, L[i] = x := ⟨_, rfl⟩
   have HTK := Lib.hid (out_take hlt hx0)
   rw [hx0] at c0 c1 c2 hxk
   obtain ⟨xr, hxr⟩ : ∃ xr, x.r = xr := ⟨_, rfl⟩
   obtain ⟨xo, hxo⟩ : ∃ xo, x.ord = xo := ⟨_, rfl⟩
   rw [hxr] at c0
   rw [hxo] at c1
   have HXK := Lib.hid hxk
   have HXR := Lib.hid hxr
   clear hxk hx0 hxr hxo
   have HO := Lib.hid (out_len (L.take i))
   by_cases hb : x.bad = true
   ·rw [if_pos hb] at c2
    have HE := Lib.hid (show Lib.byteCells (out (L.take (i + 1))) = Lib.byteCells (out (L.take i)) ++ [.int .u8 (xr % 256)] by
     rw [HTK.out, HXR.out, hb, encE_bad]
     have h : 0 ≤ xr ∧ xr < 256 := by
      rcases HXK.out with h | h
      ·rw [← HXR.out]; exact h.2
      ·rw [hb] at h; cases h.1
     have e : ((UInt8.ofNat xr.toNat).toNat : Int) = xr % 256 := by
      rw [UInt8.toNat_ofNat']; omega
     simp only [Lib.byteCells, List.map_append, List.map_cons, List.map_nil, e])
    clear hb
    go_wp2_with fail
    have hB1 := Lib.IsBuilder.ext hB.out ((Ext.refl wr).alloc (.cells #[.int .i32 xr, .int .i64 xo, .int .i64 1] 146))
    have hx1 := hx.alloc (.cells #[.int .i32 xr, .int .i64 xo, .int .i64 1] 146)
    generalize wr.alloc (.cells #[.int .i32 xr, .int .i64 xo, .int .i64 1] 146) = w1 at hB1 hx1 ⊢
    generalize wr.heap.size = xb
    refine (c_WriteByte bb bb _ (xr % 256) w1 hB1 (by have := HO.out; rw [Lib.byteCells_length]; simp only [List.length_take] at this; omega) (by have := hx1.sz; have := HBB.out; omega)).mono ?_
    rintro e w2 ⟨rfl, hB2, hx2⟩
    rw [← HE.out] at hB2
    have H2 := Lib.hid (show Lib.IsBuilder 151 5 bb bb (Lib.byteCells (out (L.take (i + 1)))) w2 ∧ Ext w w2 from ⟨.inr hB2, Ext.of (Below.trans hx1.below (by rw [HBB.out]; exact hx2))⟩)
    clear hB1 hx1 hB2 hx2 c0 c1 c2 hB hx
    go_wp2_with fail
    go_roundw
    case rel => exact ⟨i + 1, by simp, by omega, Lib.hid H2.out.1, H2.out.2⟩
    case measure => simp [intOf]; omega
   ·rw [if_neg hb] at c2
    have hbf : x.bad = false := by simpa using hb
    have HV := Lib.hid (show Utf8.valid xr = true by
     rcases HXK.out with h | h
     ·exact absurd h.1 hb
     ·rw [← HXR.out]; exact h.2)
    have HE := Lib.hid (show Lib.byteCells (out (L.take (i + 1))) = Lib.byteCells (out (L.take i)) ++ Lib.strCells (Utf8.encode xr) by
     rw [HTK.out, HXR.out, hbf, encE_rune]
     simp only [Lib.byteCells, List.map_append]
     rfl)
    clear hb hbf
    go_wp2_with fail
    have hB1 := Lib.IsBuilder.ext hB.out ((Ext.refl wr).alloc (.cells #[.int .i32 xr, .int .i64 xo, .int .i64 0] 146))
    have hx1 := hx.alloc (.cells #[.int .i32 xr, .int .i64 xo, .int .i64 0] 146)
    generalize wr.alloc (.cells #[.int .i32 xr, .int .i64 xo, .int .i64 0] 146) = w1 at hB1 hx1 ⊢
    generalize wr.heap.size = xb
    refine (c_Encode xr w1 HV.out).mono ?_
    rintro e w3 ⟨rfl, hx3⟩
    replace hB1 := Lib.IsBuilder.ext hB1 hx3
    replace hx1 := Ext.trans hx1 hx3
    have hel := encB_len xr
    have hel2 : (Utf8.encode xr).size = (encB xr).length := by simp [encB]
    have HEL := Lib.hid (show (Utf8.encode xr).size ≤ 4 by omega)
    obtain ⟨es, hes⟩ : ∃ es, Utf8.encode xr = es := ⟨_, rfl⟩
    rw [hes] at HE HEL ⊢
    have HB1 := Lib.hid hB1
    have HX1 := Lib.hid hx1
    clear hx3 hel hel2 hes hB1 hx1 c0 c1 c2 hB hx
    go_wp2_with fail
    refine (c_WriteString bb bb _ es w3 HB1.out (by have := HO.out; have := HEL.out; rw [Lib.byteCells_length]; simp only [List.length_take] at *; omega) (by have := HX1.out.sz; have := HBB.out; omega)).mono ?_
    rintro e w2 ⟨rfl, hB2, hx2⟩
    rw [← HE.out] at hB2
    have H2 := Lib.hid (show Lib.IsBuilder 151 5 bb bb (Lib.byteCells (out (L.take (i + 1)))) w2 ∧ Ext w w2 from ⟨.inr hB2, Ext.of (Below.trans HX1.out.below (by rw [HBB.out]; exact hx2))⟩)
    clear hB2 hx2
    go_wp2_with fail
    go_roundw
    case rel => exact ⟨i + 1, by simp, by omega, Lib.hid H2.out.1, H2.out.2⟩
    case measure => simp [intOf]; omega
  ·have hd : decide (i < L.length) = false := decide_eq_false hlt
   have hB9 := hB.out
   rw [List.take_of_length_le (by omega)] at hB9
   have HB9 := Lib.hid hB9
   clear hB9 hB
   go_wp2_with fail
   refine (Tryz.Builder_String_any bb bb (out L) wr HB9.out (by have := hx.sz; have := HBB.out; omega)).mono ?_
   rintro e w2 ⟨rfl, hx2⟩
   have HX2 := Lib.hid (show Ext w w2 from Ext.of (Below.trans hx.below (by rw [HBB.out]; exact hx2)))
   clear hx2 hx
   go_wp2_with fail
   go_ret
   exact ⟨rfl, HX2.out⟩
end Go.Proofs.YtokeamebcdhnpaaGreatDoor
end

section
namespace Go.Proofs.YtokeamebcdhnpaaGreatDoor
open Go.RowKit Go.Rp Go.Shelf Go.Maps Go.Nm

/-- What may be joined and put out. -/
def ElGood (x : El) : Prop := ElOk x ∧ OutOk x
theorem valid_el {r o : Int} (h : Utf8.valid r = true) (ho : 0 ≤ o ∧ o < 256) : ElGood ⟨r, o, false⟩ := by
 have h1 := valid_iff.1 h
 exact ⟨⟨ho, ⟨by show 0 ≤ r; omega, by show r < 16777216; omega⟩, fun h => by cases h⟩, .inr ⟨rfl, h⟩⟩
theorem raw_ok : ∀ (n : Nat) (l : List UInt8), l.length ≤ n → ∀ x ∈ rawOf l, (x.2 = true ∧ 0 ≤ x.1 ∧ x.1 < 256) ∨ (x.2 = false ∧ Utf8.valid x.1 = true)
 | n, [], _, x, hx => by cases hx
 | 0, c :: t, h, _, _ => by simp at h
 | n + 1, c :: t, h, x, hx => by
  rw [rawOf_step _ (by simp)] at hx
  have hw := wid_pos (c :: t)
  rcases List.mem_cons.1 hx with rfl | hx
  ·split
   ·left
    refine ⟨rfl, by show 0 ≤ (((c :: t).getD 0 0).toNat : Int); omega, ?_⟩
    have := ((c :: t).getD 0 0).toNat_lt
    show (((c :: t).getD 0 0).toNat : Int) < 256
    omega
   ·right
    exact ⟨rfl, run_valid _⟩
  ·exact raw_ok n _ (by simp only [List.length_drop, List.length_cons] at h ⊢; omega) x hx
theorem raw_len : ∀ (n : Nat) (l : List UInt8), l.length ≤ n → (rawOf l).length ≤ l.length
 | n, [], _ => by simp [rawOf, raw]
 | 0, c :: t, h => by simp at h
 | n + 1, c :: t, h => by
  rw [rawOf_step _ (by simp)]
  have hw := wid_pos (c :: t)
  have h1 := raw_len n ((c :: t).drop (wid (c :: t))) (by simp only [List.length_drop, List.length_cons] at h ⊢; omega)
  simp only [List.length_drop, List.length_cons] at h1 h ⊢
  omega
theorem els_good (k : Bool) (s : List UInt8) : ∀ x ∈ tbT.els k (rawOf s), ElGood x := by
 intro x hx
 obtain ⟨y, hy, hx⟩ := List.mem_flatMap.1 hx
 have h := raw_ok _ s (Nat.le_refl _) y hy
 split at hx
 ·rename_i hb
  simp at hx; subst hx
  rcases h with h | h
  ·exact ⟨⟨by simp, by simp; omega, fun _ => rfl⟩, .inl ⟨rfl, h.2⟩⟩
  ·rw [hb] at h; cases h.1
 ·rename_i hb
  obtain ⟨r, hr, rfl⟩ := List.mem_map.1 hx
  rcases h with h | h
  ·exact absurd h.1 hb
  ·exact valid_el (tbT_ok.val k _ h.2 r hr) (odT_range r)
theorem E_good (k : Bool) (s : List UInt8) : ∀ x ∈ tbT.E k s, ElGood x := fun x hx => els_good k s x (sortL_mem.1 hx)
theorem els_len (k : Bool) (l : List (Int × Bool)) : (tbT.els k l).length ≤ 20 * l.length := by
 induction l with
 | nil => simp [Tb.els]
 | cons x t ih =>
  have e : tbT.els k (x :: t) = (if x.2 = true then [⟨x.1, 0, true⟩] else (tbT.fa k x.1).map tbT.mk1) ++ tbT.els k t := rfl
  rw [e, List.length_append, List.length_cons]
  have : (if x.2 = true then [(⟨x.1, 0, true⟩ : El)] else (tbT.fa k x.1).map tbT.mk1).length ≤ 20 := by
   split
   ·simp
   ·rw [List.length_map]; exact (faT_len k x.1).2
  omega
theorem E_len (k : Bool) (s : List UInt8) : (tbT.E k s).length ≤ 20 * s.length := by
 have h1 := els_len k (rawOf s)
 have h2 := raw_len _ s (Nat.le_refl _)
 unfold Tb.E
 rw [sortL_len]
 omega
/-- Joining keeps what is true of each, and makes no more. -/
theorem J_keep {P : El → Prop} (hP : ∀ s r a b, P s → ¬ s.bad = true → jnT a b = some r → P { s with r := r }) : ∀ (L : List El) (st : Option (El × List El)), (∀ x ∈ L, P x) → (∀ s b, st = some (s, b) → P s ∧ ¬ s.bad = true ∧ ∀ y ∈ b, P y) → (∀ y ∈ J jnT st L, P y) ∧ (J jnT st L).length ≤ (match st with | none => 0 | some (_, b) => b.length + 1) + L.length
 | [], none, _, _ => by simp [J]
 | [], some (s, b), _, h => by
  have h1 := h s b rfl
  rw [J]
  refine ⟨fun y hy => ?_, by simp⟩
  rcases List.mem_cons.1 hy with rfl | hy
  ·exact h1.1
  ·exact h1.2.2 y hy
 | x :: t, none, hL, _ => by
  have hx := hL x (by simp)
  have ht : ∀ y ∈ t, P y := fun y hy => hL y (by simp [hy])
  rw [J]
  split
  ·have ih := J_keep hP t none ht (fun s b h => by cases h)
   refine ⟨fun y hy => ?_, by have := ih.2; simp only [List.length_cons] at this ⊢; omega⟩
   rcases List.mem_cons.1 hy with rfl | hy
   ·exact hx
   ·exact ih.1 y hy
  ·rename_i hc
   have ih := J_keep hP t (some (x, [])) ht (fun s b h => by cases h; exact ⟨hx, fun h => hc (.inl h), by simp⟩)
   exact ⟨ih.1, by have := ih.2; simp only [List.length_cons, List.length_nil] at this ⊢; omega⟩
 | x :: t, some (s, b), hL, hst => by
  have hx := hL x (by simp)
  have ht : ∀ y ∈ t, P y := fun y hy => hL y (by simp [hy])
  obtain ⟨hs, hsb, hb⟩ := hst s b rfl
  rw [J]
  split
  ·have ih := J_keep hP t none ht (fun s b h => by cases h)
   refine ⟨fun y hy => ?_, by have := ih.2; simp only [List.length_cons, List.length_append] at this ⊢; omega⟩
   simp only [List.mem_cons, List.mem_append] at hy
   rcases hy with rfl | hy | rfl | hy
   ·exact hs
   ·exact hb y hy
   ·exact hx
   ·exact ih.1 y hy
  ·rename_i hxb
   split
   ·rename_i r hr
    have hj : jnT s.r x.r = some r := by
     split at hr
     ·exact hr
     ·cases hr
    have ih := J_keep hP t (some ({ s with r := r }, b)) ht (fun s' b' h => by cases h; exact ⟨hP s r _ _ hs hsb hj, hsb, hb⟩)
    exact ⟨ih.1, by have := ih.2; simp only [List.length_cons] at this ⊢; omega⟩
   ·split
    ·have ih := J_keep hP t (some (s, b ++ [x])) ht (fun s' b' h => by
      cases h
      refine ⟨hs, hsb, fun y hy => ?_⟩
      rcases List.mem_append.1 hy with hy | hy
      ·exact hb y hy
      ·simp at hy; subst hy; exact hx)
     exact ⟨ih.1, by have := ih.2; simp only [List.length_cons, List.length_append, List.length_nil] at this ⊢; omega⟩
    ·have ih := J_keep hP t (some (x, [])) ht (fun s' b' h => by cases h; exact ⟨hx, hxb, by simp⟩)
     refine ⟨fun y hy => ?_, by have := ih.2; simp only [List.length_cons, List.length_append, List.length_nil] at this ⊢; omega⟩
     simp only [List.mem_cons, List.mem_append] at hy
     rcases hy with rfl | hy | hy
     ·exact hs
     ·exact hb y hy
     ·exact ih.1 y hy
theorem join_good (s : El) (r a b : Int) (h : ElGood s) (hb : ¬ s.bad = true) (hj : jnT a b = some r) : ElGood { s with r := r } := by
 have hv := jnT_valid a b r hj
 have h1 := valid_iff.1 hv
 have hbf : s.bad = false := by simpa using hb
 exact ⟨⟨h.1.1, ⟨by show 0 ≤ r; omega, by show r < 16777216; omega⟩, h.1.2.2⟩, .inr ⟨hbf, hv⟩⟩
theorem JE_good (k : Bool) (s : List UInt8) : (∀ x ∈ J jnT none (tbT.E k s), ElGood x) ∧ (J jnT none (tbT.E k s)).length ≤ 20 * s.length := by
 have h := J_keep join_good (tbT.E k s) none (E_good k s) (fun s b h => by cases h)
 have := E_len k s
 exact ⟨h.1, by have := h.2; simp only at this; omega⟩
set_option maxRecDepth 100000 in
set_option maxHeartbeats 4000000 in
theorem c_form (nb tB : Nat) (s : ByteArray) (f : Int) (w : World) (ht : NTab nb w tB) (hT : Tabs w) (hs : s.size ≤ 1000000) :
  Calls Tryz.prog 47 #[.pointer (some ⟨tB, 0, none⟩), .string s, .int .i64 f] w fun e w' => e = .returned (.string ⟨(tbT.form (decide (f = 2 ∨ f = 3)) (decide (f = 1 ∨ f = 3)) s.data.toList).toArray⟩) ∧ Ext w w' := by
 obtain ⟨k, hk⟩ : ∃ k, decide (f = 2 ∨ f = 3) = k := ⟨_, rfl⟩
 have HK := Lib.hid hk
 rw [hk]
 clear hk
 have hsl : s.data.toList.length ≤ 1000000 := by rw [len_eq]; exact hs
 obtain ⟨c, hc⟩ : ∃ c, decide (f = 1 ∨ f = 3) = c := ⟨_, rfl⟩
 have HC := Lib.hid (show ∀ w, Calls Tryz.prog 66 #[.int .i64 f] w fun e w' => e = .returned (.bool c) ∧ w' = w from fun w => by rw [← hc]; exact c_joining f w)
 have HE := Lib.hid (And.intro (E_good k s.data.toList) (E_len k s.data.toList))
 have HJ := Lib.hid (JE_good k s.data.toList)
 have HS := Lib.hid hsl
 have hrun := c_elements nb tB s f k HK.out w ht hT hs
 rw [hc]
 unfold Tb.form
 obtain ⟨E, hE⟩ : ∃ E, tbT.E k s.data.toList = E := ⟨_, rfl⟩
 rw [hE] at hrun HE HJ ⊢
 have HRUN := Lib.hid hrun
 clear hrun hE hc hsl
 cases c with
 | true =>
  rw [if_pos rfl]
  go_enter Tryz.func47, Tryz.ntmps47
  go_wp2_with fail
  refine HRUN.out.mono ?_
  rintro e w2 ⟨v, rfl, hrow, hx2⟩
  have HR2 := Lib.hid (And.intro hrow hx2)
  clear hrow hx2
  go_wp2_with fail
  refine (HC.out w2).mono ?_
  rintro e w3 ⟨rfl, e3⟩
  obtain rfl := e3.symm
  clear e3
  go_wp2_with fail
  refine (c_joined nb tB E w.heap.size v w2 (ht.ext HR2.out.2) HR2.out.1 (fun x hx => (HE.out.1 x hx).1) (by have := HE.out.2; have := HS.out; omega)).mono ?_
  rintro e w4 ⟨v4, rfl, hrow4, hx4⟩
  have HR4 := Lib.hid (And.intro hrow4 (HR2.out.2.trans hx4))
  clear hrow4 hx4
  go_wp2_with fail
  refine (c_text (J jnT none E) w2.heap.size v4 w4 HR4.out.1 (fun x hx => (HJ.out.1 x hx).2) (by have := HJ.out.2; have := HS.out; omega)).mono ?_
  rintro e w5 ⟨rfl, hx5⟩
  have HX5 := Lib.hid (HR4.out.2.trans hx5)
  clear hx5
  go_wp2_with fail
  go_ret
  exact ⟨rfl, HX5.out⟩
 | false =>
  rw [if_neg (by simp)]
  go_enter Tryz.func47, Tryz.ntmps47
  go_wp2_with fail
  refine HRUN.out.mono ?_
  rintro e w2 ⟨v, rfl, hrow, hx2⟩
  have HR2 := Lib.hid (And.intro hrow hx2)
  clear hrow hx2
  go_wp2_with fail
  refine (HC.out w2).mono ?_
  rintro e w3 ⟨rfl, e3⟩
  obtain rfl := e3.symm
  clear e3
  go_wp2_with fail
  refine (c_text E w.heap.size v w2 HR2.out.1 (fun x hx => (HE.out.1 x hx).2) (by have := HE.out.2; have := HS.out; omega)).mono ?_
  rintro e w5 ⟨rfl, hx5⟩
  have HX5 := Lib.hid (HR2.out.2.trans hx5)
  clear hx5
  go_wp2_with fail
  go_ret
  exact ⟨rfl, HX5.out⟩
/-- A text in a form, as Form tells it. -/
noncomputable def formT (f : Int) (s : List UInt8) : List UInt8 := if 0 ≤ f ∧ f ≤ 3 then tbT.form (decide (f = 2 ∨ f = 3)) (decide (f = 1 ∨ f = 3)) s else s
set_option maxRecDepth 100000 in
set_option maxHeartbeats 4000000 in
theorem c_Form (s : ByteArray) (f : Int) (w : World) (hT : Tabs w) (hs : s.size ≤ 1000000) :
  Calls Tryz.prog 20 #[.string s, .int .i64 f] w fun e w' => e = .returned (.string ⟨(formT f s.data.toList).toArray⟩) ∧ Ext w w' := by
 obtain ⟨q, hq⟩ : ∃ q, decide (0 ≤ f ∧ f ≤ 3) = q := ⟨_, rfl⟩
 have HC := Lib.hid (show ∀ w, Calls Tryz.prog 45 #[.int .i64 f] w fun e w' => e = .returned (.bool q) ∧ w' = w from fun w => by rw [← hq]; exact c_right f w)
 unfold formT
 obtain ⟨z, hz⟩ : ∃ z, tbT.form (decide (f = 2 ∨ f = 3)) (decide (f = 1 ∨ f = 3)) s.data.toList = z := ⟨_, rfl⟩
 have HF := Lib.hid (show ∀ nb tB w, NTab nb w tB → Tabs w → Calls Tryz.prog 47 #[.pointer (some ⟨tB, 0, none⟩), .string s, .int .i64 f] w fun e w' => e = .returned (.string ⟨z.toArray⟩) ∧ Ext w w' from fun nb tB w h1 h2 => by rw [← hz]; exact c_form nb tB s f w h1 h2 hs)
 rw [hz]
 clear hz
 cases q with
 | true =>
  rw [if_pos (of_decide_eq_true hq)]
  clear hq
  go_enter Tryz.func20, Tryz.ntmps20
  go_wp2_with fail
  refine (HC.out w).mono ?_
  rintro e w3 ⟨rfl, e3⟩
  obtain rfl := e3.symm
  clear e3
  go_wp2_with fail
  refine (c_load w hT).mono ?_
  rintro e w2 ⟨tB, rfl, ht, hx⟩
  have HT := Lib.hid (And.intro ht hx)
  clear ht hx
  go_wp2_with fail
  refine (HF.out w.heap.size tB w2 HT.out.1 (hT.ext HT.out.2)).mono ?_
  rintro e w5 ⟨rfl, hx5⟩
  have HX5 := Lib.hid (HT.out.2.trans hx5)
  clear hx5
  go_wp2_with fail
  go_ret
  exact ⟨rfl, HX5.out⟩
 | false =>
  rw [if_neg (of_decide_eq_false hq)]
  clear hq
  go_enter Tryz.func20, Tryz.ntmps20
  go_wp2_with fail
  refine (HC.out w).mono ?_
  rintro e w3 ⟨rfl, e3⟩
  obtain rfl := e3.symm
  clear e3
  go_wp2_with fail
  go_ret
  exact ⟨rfl, Ext.refl _⟩
theorem formT_len (f : Int) (s : List UInt8) : (formT f s).length ≤ 80 * s.length := by
 unfold formT
 split
 ·unfold Tb.form
  refine Nat.le_trans (out_len _) ?_
  split
  ·have : (J tbT.jn none (tbT.E (decide (f = 2 ∨ f = 3)) s)).length ≤ 20 * s.length := (JE_good (decide (f = 2 ∨ f = 3)) s).2
   omega
  ·have := E_len (decide (f = 2 ∨ f = 3)) s
   omega
 ·omega
end Go.Proofs.YtokeamebcdhnpaaGreatDoor
end
