/-
 Which rune falls apart into which, out of a text.
-/
import Derived.Test.YtokeamebcdhnpaaGreatDoorWalkC
import Derived.Test.YtokeamebcdhnpaaGreatDoorMapsR
namespace Go.Proofs.YtokeamebcdhnpaaGreatDoor
open Go.RowKit Go.Rp Go.Shelf Go.Maps

attribute [local go_sem] run_makeMap
/-- Hexadecimal digits, a few. -/
def HexW (x : List UInt8) : Prop := 0 < x.length ∧ x.length ≤ 6 ∧ ∀ c ∈ x, isHex c
/-- Lines of which each has two words at least. -/
def GoodL (L : List (List (List UInt8))) : Prop := (∀ ws ∈ L, (2 ≤ ws.length ∧ ws.length ≤ 1000) ∧ ∀ x ∈ ws, HexW x) ∧ (L.map fun ws => hexV (ws.headD [])).Nodup
/-- What a line says. -/
def entOf (ws : List (List UInt8)) : Int × List Int := ((hexV (ws.headD []) : Nat), ws.tail.map fun x => ((hexV x : Nat) : Int))
def i32s (l : List Int) : List Value := l.map fun x => Value.int .i32 x
/-- A map of slices of runes, each its own. -/
def RMap (n : Nat) (W : World) (m : Nat) (kv : List (Value × Value)) (E : List (Int × List Int)) : Prop :=
 MapIs W m kv ∧ kv.length = E.length ∧ ∀ i (h : i < kv.length) (h' : i < E.length), ∃ v, kv[i] = (.int .i32 E[i].1, v) ∧ W.ownsRow n 21 1 v E[i].2.length (i32s E[i].2)
theorem Tryz.infoI : (Tryz.prog.info? 21).map (fun i => (i.zero, i.size, i.bytes)) = some (some (.int .i32 0), 1, 4) := by kernel_rfl
theorem key_i32 {x : Int} (h0 : 0 ≤ x) (h1 : x < 2147483648) : keyOf Tryz.prog 21 (.int .i32 x) = some (.int .i32 x) :=
 keyOf_int_mk Tryz.underlying21 (by simp [Lit.wf, IntKind.min, IntKind.max, IntKind.bits, IntKind.signed]; omega)
theorem hex_le {x : List UInt8} (h : HexW x) : ((hexV x : Nat) : Int) < 16777216 := by
 have h1 := hexV_lt x h.2.2
 have h2 : 16 ^ x.length ≤ 16 ^ 6 := Nat.pow_le_pow_right (by decide) h.2.1
 omega
/-- A word of a line, by its digits. -/
theorem c_hexW (x : List UInt8) (w : World) (h : HexW x) : Calls Tryz.prog 63 #[.string ⟨x.toArray⟩] w fun e w' => e = .returned (.int .i32 (hexV x : Nat)) ∧ Ext w w' :=
 c_hex ⟨x.toArray⟩ w (by simpa [ByteArray.size] using h.1) (by simpa [ByteArray.size] using h.2.1) (by simpa using h.2.2)
theorem RMap.keys {n : Nat} {W : World} {m : Nat} {kv : List (Value × Value)} {E : List (Int × List Int)} (h : RMap n W m kv E) (hE : ∀ e ∈ E, 0 ≤ e.1 ∧ e.1 < 16777216) : ∀ p ∈ kv, ∃ l, keyOf Tryz.prog 21 p.1 = some l := by
 intro p hp
 obtain ⟨i, hi, rfl⟩ := List.mem_iff_getElem.1 hp
 have hi' : i < E.length := by rw [← h.2.1]; exact hi
 obtain ⟨v, e, _⟩ := h.2.2 i hi hi'
 have := hE _ (List.getElem_mem hi')
 rw [e]
 exact ⟨_, key_i32 this.1 (by omega)⟩
theorem RMap.key_ne {n : Nat} {W : World} {m : Nat} {kv : List (Value × Value)} {E : List (Int × List Int)} (h : RMap n W m kv E) {k : Int} (hE : ∀ e ∈ E, e.1 ≠ k) : ∀ p ∈ kv, p.1 ≠ .int .i32 k := by
 intro p hp e2
 obtain ⟨i, hi, rfl⟩ := List.mem_iff_getElem.1 hp
 have hi' : i < E.length := by rw [← h.2.1]; exact hi
 obtain ⟨v, e, _⟩ := h.2.2 i hi hi'
 rw [e] at e2
 exact hE _ (List.getElem_mem hi') (by simpa using e2)
theorem row_not_map {W : World} {n : Nat} {e : TypeId} {size k : Nat} {v : Value} {xs : List Value} (h : W.ownsRow n e size v k xs) {m : Nat} {kv : List (Value × Value)} (hm : MapIs W m kv) : v.ownBlock ≠ some m := by
 rcases h.2 with ⟨rfl, _⟩ | ⟨g, cap, cur, rfl, _, hgb, _⟩
 ·simp [Value.ownBlock]
 ·intro e
  obtain rfl : g = m := by simpa [Value.ownBlock] using e
  obtain ⟨es, ck, hb, _⟩ := hm
  rw [hb] at hgb
  cases hgb
theorem RMap.snoc {n n' : Nat} {W W' : World} {m : Nat} {kv : List (Value × Value)} {E : List (Int × List Int)} (h : RMap n W m kv E) (hg : W.grownBy W' (some m)) (hn : n ≤ n') {k : Int} {l : List Int} {v : Value} (hm : MapIs W' m (kv ++ [(.int .i32 k, v)])) (hr : W'.ownsRow n' 21 1 v l.length (i32s l)) : RMap n W' m (kv ++ [(.int .i32 k, v)]) (E ++ [(k, l)]) := by
 refine ⟨hm, by simp [h.2.1], fun i h1 h2 => ?_⟩
 by_cases hi : i < kv.length
 ·have hi' : i < E.length := by rw [← h.2.1]; exact hi
  obtain ⟨u, e, hu⟩ := h.2.2 i hi hi'
  rw [List.getElem_append_left hi, List.getElem_append_left hi']
  exact ⟨u, e, hu.kept hg (.inr (row_not_map hu h.1))⟩
 ·have : i = kv.length := by simp at h1; omega
  subst this
  refine ⟨v, by simp [h.2.1], ?_⟩
  have : (E ++ [(k, l)])[kv.length] = (k, l) := by simp [h.2.1]
  rw [this]
  exact own_lower hr hn
set_option maxRecDepth 100000 in
set_option maxHeartbeats 4000000 in
theorem c_parts (s : ByteArray) (L : List (List (List UInt8))) (hL : wordsOf s = L) (w : World) (hs : s.size ≤ 1000000) (ha : ∀ c ∈ s.data.toList, c.toNat < 128) (hT : Tabs w) (HG : Hid (GoodL L)) :
  Calls Tryz.prog 61 #[.string s] w fun e w' => ∃ m kv, e = .returned (.map (some m)) ∧ w.heap.size ≤ m ∧ RMap w.heap.size w' m kv (L.map entOf) ∧ Ext w w' := by
 have hHI : Hid (∃ i0, Tryz.prog.info? 21 = some i0 ∧ i0.zero = some (.int .i32 0) ∧ i0.size = 1 ∧ i0.bytes = 4) := by
  obtain ⟨i0, hi, hz0, hz1, hz2⟩ := info_parts Tryz.infoI
  exact ⟨i0, hi, hz0, hz1, hz2⟩
 go_enter Tryz.func61, Tryz.ntmps61
 go_wp2_with fail
 have hx0 : Ext w (w.alloc (.map #[] 0)) := (Ext.refl w).alloc _
 have hM0 := MapIs.new w
 refine (c_lines s _ hs ha (hT.ext hx0)).mono ?_
 rintro e W0 ⟨v, vs, rfl, hrow, hwd, hx1⟩
 replace hM0 := hM0.ext hx1
 have hx01 := Ext.trans hx0 hx1
 rw [World.size_alloc] at hrow hwd
 clear hx1 hx0
 rw [hL] at hrow hwd
 have hll : L.length ≤ 1000000 := by rw [← hL]; simp [wordsOf]; exact Nat.le_trans (linesGo_len _ _) hs
 clear hL
 obtain ⟨p, cap, rfl⟩ := own_slice hrow
 obtain ⟨mb, hmb⟩ : ∃ mb, w.heap.size = mb := ⟨_, rfl⟩
 have hwn := Lib.hid hmb
 rw [hmb] at hM0 hrow hwd ⊢
 clear hmb
 have HROW := Lib.hid hrow
 have HWD := Lib.hid hwd
 clear hrow hwd
 go_wp2_with fail
 go_loopw [12] (fun iv W => ∃ (i : Nat) (kv : List (Value × Value)), iv = .int .i64 (i : Nat) ∧ i ≤ L.length ∧ RMap mb W mb kv ((L.take i).map entOf) ∧ W0.grownBy W (some mb)) (fun iv _ => L.length + 1 - (intOf iv).toNat)
 case atStart => exact ⟨0, [], rfl, by omega, ⟨hM0, rfl, fun i h => by simp at h⟩, World.grownBy.refl _ _⟩
 case round =>
  obtain ⟨i, kv, rfl, hi, hR, hg⟩ := hrel
  obtain ⟨Wi, rfl⟩ : ∃ Wi, Wi = wr := ⟨wr, rfl⟩
  by_cases hlt : i < L.length
  ·have hlI : ((i : Nat) : Int) < (L.length : Nat) := by omega
   have hd : decide (i < L.length) = true := decide_eq_true hlt
   obtain ⟨ws, hws⟩ : ∃ ws, L[i] = ws := ⟨_, rfl⟩
   obtain ⟨g2, gh⟩ := HG.out.1 ws (by rw [← hws]; exact List.getElem_mem hlt)
   obtain ⟨k, xs, rfl⟩ : ∃ k xs, ws = k :: xs := by cases ws with
    | nil => simp at g2
    | cons k xs => exact ⟨k, xs, rfl⟩
   have hvl : i < vs.length := by rw [HWD.out.1]; exact hlt
   obtain ⟨b, hb1, hb2, hb3⟩ := HWD.out.2 i hvl hlt
   rw [hws] at hb2 hb3
   obtain ⟨rb, rfl, hrb0, hrb1, hrc⟩ := own_at HROW.out (by omega)
   have hrbne : rb ≠ mb := by
    intro e
    subst e
    have hc := hrc i (by omega)
    rw [List.getElem?_eq_getElem hvl] at hc
    obtain ⟨es, ck, hm, _⟩ := hM0
    simp [World.cell?, hm] at hc
   have hc : Wi.cell? ⟨rb, i, none⟩ = some (.slice (some ⟨b, 0, none⟩) (xs.length + 1) (xs.length + 1)) := by
    rw [World.cell?_of_block (hg.block rb hrb1 (by simpa using hrbne)), hrc i (by omega), List.getElem?_eq_getElem hvl, hb2]
    rfl
   have hbl := blk_lt hb3
   have hbne : b ≠ mb := by
    intro e
    subst e
    obtain ⟨es, ck, hm, _⟩ := hM0
    rw [hm] at hb3
    cases hb3
   have hbW := (hg.block b hbl (by simpa using hbne)).trans hb3
   have hxs : 1 ≤ xs.length ∧ xs.length ≤ 999 := by simpa using g2
   have hx1 : (1 : Int) ≤ (xs.length : Nat) + 1 := by omega
   have hkey := hex_le (gh k (by simp))
   obtain ⟨kz, hkz⟩ : ∃ kz : Int, ((hexV k : Nat) : Int) = kz := ⟨_, rfl⟩
   have hE : ∀ e ∈ (L.take i).map entOf, 0 ≤ e.1 ∧ e.1 < 16777216 := by
    intro e he
    obtain ⟨ws, hw, rfl⟩ := List.mem_map.1 he
    obtain ⟨g3, g4⟩ := HG.out.1 ws (List.mem_of_mem_take hw)
    cases ws with
    | nil => simp at g3
    | cons k ks => exact ⟨Int.natCast_nonneg _, hex_le (g4 k (by simp))⟩
   have hkeys := hR.keys hE
   have hkne : ∀ p ∈ kv, p.1 ≠ .int .i32 kz := hR.key_ne fun e he e2 => by
    obtain ⟨ws, hw, rfl⟩ := List.mem_map.1 he
    obtain ⟨j, hj, rfl⟩ := List.mem_iff_getElem.1 hw
    have hj' : j < i := by simp at hj; omega
    have hn := List.pairwise_iff_getElem.1 HG.out.2 j i (by simp; omega) (by simp; omega) hj'
    simp only [List.getElem_map, hws] at hn
    rw [List.getElem_take] at e2
    rw [← hkz] at e2
    have e3 : hexV (L[j].headD []) = hexV k := by
     have : ((hexV (L[j].headD []) : Nat) : Int) = (hexV k : Nat) := e2
     omega
    exact hn e3
   have HK := Lib.hid hkeys
   have HN := Lib.hid hkne
   have HX := Lib.hid gh
   have HKZ := Lib.hid hkz
   have HR := Lib.hid hR
   have HKB := Lib.hid (show 0 ≤ kz ∧ kz < 16777216 by omega)
   have HBW := Lib.hid hbW
   have hbl' := Nat.lt_of_lt_of_le hbl hg.size
   have hmr := hR.1
   clear hrc hb2 hb3 hE hkeys hkne gh hkz hkey hR hbW
   go_wp2_with fail
   go_loopw [19] (fun jv W => ∃ (j : Nat) (kv' : List (Value × Value)) (v : Value), jv = .int .i64 (j : Nat) ∧ j ≤ xs.length ∧ Hid (MapIs W mb kv') ∧ W.ownsRow Wi.heap.size 21 1 v j (i32s ((xs.take j).map fun x => ((hexV x : Nat) : Int))) ∧ Hid ((j = 0 ∧ kv' = kv ∧ v = .slice none 0 0) ∨ (0 < j ∧ kv' = kv ++ [(.int .i32 kz, v)])) ∧ Wi.grownBy W (some mb)) (fun jv _ => xs.length + 1 - (intOf jv).toNat)
   case atStart => exact ⟨0, kv, _, rfl, by omega, Lib.hid hmr, World.ownsRow_nil _ _ _ _, Lib.hid (.inl ⟨rfl, rfl, rfl⟩), World.grownBy.refl _ _⟩
   case round =>
    obtain ⟨j, kv', v, rfl, hj, hM, hrow, hcase, hg2⟩ := hrel
    by_cases hlt2 : j < xs.length
    ·have hjI : ((j : Nat) : Int) < (xs.length : Nat) := by omega
     have hd2 : decide (j < xs.length) = true := decide_eq_true hlt2
     have hbw2 := (hg2.block b hbl' (by simpa using hbne)).trans HBW.out
     obtain ⟨y, hy⟩ : ∃ y, xs[j] = y := ⟨_, rfl⟩
     have hyW := HX.out y (by rw [← hy]; simp)
     have hc0 : wr.cell? ⟨b, 0, none⟩ = some (.string ⟨k.toArray⟩) := (cell_blk hbw2 0).trans (by simp)
     have hcj : wr.cell? ⟨b, 1 + j, none⟩ = some (.string ⟨y.toArray⟩) := (cell_blk hbw2 (1 + j)).trans (by rw [Nat.add_comm]; simp [hlt2, hy])
     have hz2 := Tryz.zeroValue55
     have hkey0 := key_i32 (x := kz) HKB.out.1 (by have := HKB.out; omega)
     have hkk : ∀ p ∈ kv', ∃ l, keyOf Tryz.prog 21 p.1 = some l := by
      rcases hcase.out with ⟨_, rfl, _⟩ | ⟨_, rfl⟩
      ·exact HK.out
      ·intro p hp
       rcases List.mem_append.1 hp with hp | hp
       ·exact HK.out p hp
       ·simp at hp; subst hp; exact ⟨_, hkey0⟩
     have hlk : ∀ w', EOn (fun a => a.block = mb ∨ a.block = b) wr w' → (Instr.lookup 98 (.map (some mb)) (.int .i32 kz) false).run Tryz.prog w' = .ok v w' := fun w' hx => by
      have hM' := hM.out.of_blk fun o ho hc => hx.objs mb o (.inl rfl) ho hc
      rcases hcase.out with ⟨_, rfl, rfl⟩ | ⟨_, rfl⟩
      ·exact hM'.none (int_keyed Tryz.underlying21) Tryz.underlying98 hkk hkey0 (fun W => hz2 W) HN.out false
      ·refine hM'.there (int_keyed Tryz.underlying21) Tryz.underlying98 hkk hkey0 (fun W => hz2 W) (v := v) (by simp) (fun v' hv' => ?_) false
       rcases List.mem_append.1 hv' with hp | hp
       ·exact absurd rfl (HN.out _ hp)
       ·simpa using hp
     have m1 : ∀ w', EOn (fun a => a.block = mb ∨ a.block = b) wr w' → w'.cell? ⟨b, 0, none⟩ = some (.string ⟨k.toArray⟩) := fun w' hx => hx.cell (.inr rfl) hc0
     have HCK : Hid (∀ w', Calls Tryz.prog 63 #[.string ⟨k.toArray⟩] w' fun e w'' => e = .returned (.int .i32 kz) ∧ Ext w' w'') := Lib.hid fun w' => by rw [← HKZ.out]; exact c_hexW k w' (HX.out k (by simp))
     obtain ⟨yz, hyz⟩ : ∃ yz : Int, ((hexV y : Nat) : Int) = yz := ⟨_, rfl⟩
     have HCY : Hid (∀ w', Calls Tryz.prog 63 #[.string ⟨y.toArray⟩] w' fun e w'' => e = .returned (.int .i32 yz) ∧ Ext w' w'') := Lib.hid fun w' => by rw [← hyz]; exact c_hexW y w' hyW
     have HKK := Lib.hid hkk
     have HYZ := Lib.hid hyz
     have HY := Lib.hid hy
     have HK0 := Lib.hid hkey0
     have HBW2 := Lib.hid hbw2
     clear hc0 hyz hkk hy hkey0 hyW hbw2
     go_wp2_with fail
     refine wp_lexN ((fun a => a.block = mb ∨ a.block = b)) [true, true, true, true, true, true, true, true, true, true, true, true, true, false, false] (by kernel_rfl) (by kernel_rfl) ?_
     repeat first
      | refine wpG_move' ?_
      | refine wpG_assign' ?_
      | refine wpG_val' ?_
      | refine wpG_no' ?_
     refine wpG_call (by rfl) (fun w' hx => (by go_simp <;> first | exact rfl | exact ⟨rfl, rfl⟩)) (fun w' hx => HCK.out w') (by simp only [Act.put, List.setIfInBounds_toArray, List.set_cons_succ, List.set_cons_zero]; rfl) ?_
     repeat first
      | refine wpG_move' ?_
      | refine wpG_assign' ?_
      | refine wpG_val' ?_
      | refine wpG_no' ?_
     refine wpG_call (by rfl) (fun w' hx => (by go_simp <;> first | exact rfl | exact ⟨rfl, rfl⟩)) (fun w' hx => HCK.out w') (by simp only [Act.put, List.setIfInBounds_toArray, List.set_cons_succ, List.set_cons_zero]; rfl) ?_
     repeat first
      | refine wpG_move' ?_
      | refine wpG_assign' ?_
      | refine wpG_val' ?_
      | refine wpG_no' ?_
     refine wpG_call (by rfl) (fun w' hx => (by go_simp <;> first | exact rfl | exact ⟨rfl, rfl⟩)) (fun w' hx => HCY.out w') (by simp only [Act.put, List.setIfInBounds_toArray, List.set_cons_succ, List.set_cons_zero]; rfl) ?_
     have HLK := Lib.hid hlk
     clear hlk m1 hcj
     refine wpG_do (by rfl) (fun w6 hx6 K hK => ?_)
     go_wp2_with fail
     refine ⟨EOn.of_ext ((Ext.refl w6).alloc _), ?_⟩
     have hx7 : Ext wr (w6.alloc (.cells #[.int .i32 yz] 21)) := hx6.alloc _
     have hnew := World.news_of_block (World.alloc_heap_new w6 (.cells #[.int .i32 yz] 21))
     generalize w6.alloc (.cells #[.int .i32 yz] 21) = w7 at hx7 hnew ⊢
     generalize w6.heap.size = gb at hnew ⊢
     clear hx6
     refine wpG_do (by rfl) (fun w8 hx8 K hK => ?_)
     refine wp_alone (ops := #[]) (by rfl) (fun a w h => by cases h.1) ?_
     have hx08 := Ext.trans hx7 hx8
     have hrow8 := ownsRow_ext hrow hx08
     obtain ⟨i0, hi0, hz0, hz1, hz3⟩ := hHI.out
     have hgs := hg2.size
     refine wpList_append_own _ rfl (.tmp 33) (.tmp 36) 55 rfl Wi.heap.size 21 i0 (.int .i32 0) 1 4 Tryz.underlying55 hi0 hz0 hz1 hz3 rfl (by decide) v j (i32s ((xs.take j).map fun x => ((hexV x : Nat) : Int))) rfl hrow8 ⟨gb, 0, none⟩ 1 1 [.int .i32 yz] rfl rfl (fun j u hu => hx8.cell (hnew j u hu)) (by intro u hu; simp at hu; subst hu; rfl) (by unfold maxLen; omega) (by omega) (Nat.le_trans hgs hx08.sz) ?_
     intro v' w9 hown9 hgrow9 _
     obtain ⟨g', cap', rfl⟩ := ownsRow_succ hown9
     have hM8 := hM.out.ext hx08
     have hM9 := hM8.kept hgrow9 (fun e => row_not_map hrow8 hM8 e.symm)
     have hgg : wr.grownBy w9 v.ownBlock ∧ True := ⟨(show wr.grownBy w8 v.ownBlock from ⟨hx08.os, hx08.tape, hx08.output, hx08.size, fun k hk _ => hx08.block k hk⟩).trans hgrow9, trivial⟩
     have hg9 : Wi.grownBy w9 (some mb) := ⟨hgg.1.os.trans hg2.os, hgg.1.tape.trans hg2.tape, hgg.1.output.trans hg2.output, Nat.le_trans hg2.size hgg.1.size, fun q hq hne => (hgg.1.block q (Nat.lt_of_lt_of_le hq hg2.size) (fun e => by
      rcases hrow.2 with ⟨rfl, _⟩ | ⟨g, cp, cur, rfl, hbg, hgb, _⟩
      ·simp [Value.ownBlock] at e
      ·obtain rfl : q = g := by simpa [Value.ownBlock] using e
       omega)).trans (hg2.block q hq hne)⟩
     refine hK _ _ ⟨EOn.of_grown hgrow9 (fun a ha hb => ?_), ?_⟩
     ·intro e
      rcases ha with ha | ha
      ·rw [ha] at e
       exact row_not_map hrow8 hM8 e.symm
      ·rw [ha] at e
       rcases hrow8.2 with ⟨rfl, _⟩ | ⟨g, cp, cur, rfl, hbg, hgb, _⟩
       ·simp [Value.ownBlock] at e
       ·obtain rfl : b = g := by simpa [Value.ownBlock] using e
        omega
     clear hK
     refine wpG_end (fun w10 hx10 => ?_)
     have hM10 := hM9.ext hx10
     have hkk := HKK.out
     have hput : ∃ w11, (Instr.mapUpdate 98 (.map (some mb)) (.int .i32 kz) (.slice (some ⟨g', 0, none⟩) (j + 1) cap')).run Tryz.prog w10 = .ok () w11 ∧ MapIs w11 mb (kv ++ [(.int .i32 kz, .slice (some ⟨g', 0, none⟩) (j + 1) cap')]) ∧ w10.grownBy w11 (some mb) ∧ w11.heap.size = w10.heap.size := by
      rcases hcase.out with ⟨_, e, _⟩ | ⟨_, e⟩
      ·rw [e] at hM10 hkk
       exact hM10.put (int_keyed Tryz.underlying21) Tryz.underlying98 hkk HK0.out HN.out
      ·rw [e] at hM10 hkk
       exact hM10.set (int_keyed Tryz.underlying21) Tryz.underlying98 hkk HK0.out HN.out (by simp)
     obtain ⟨w11, hrun, hM11, hg11, hsz11⟩ := hput
     have hown11 := (ownsRow_ext hown9 hx10).kept hg11 (.inr (row_not_map (ownsRow_ext hown9 hx10) hM10))
     have hg12 : Wi.grownBy w11 (some mb) := (hg9.trans ⟨hx10.os, hx10.tape, hx10.output, hx10.size, fun k hk _ => hx10.block k hk⟩).trans hg11
     have HM11 := Lib.hid hM11
     have HO11 := Lib.hid (show w11.ownsRow Wi.heap.size 21 1 (.slice (some ⟨g', 0, none⟩) (j + 1) cap') (j + 1) (i32s ((xs.take (j + 1)).map fun x => ((hexV x : Nat) : Int))) from by
      rw [List.take_add_one, List.getElem?_eq_getElem hlt2, HY.out]
      simp only [List.map_append, Option.toList_some, List.map_cons, List.map_nil, i32s, HYZ.out]
      simpa [i32s] using hown11)
     clear hM11 hown11 hg11 hsz11 hM10 hkk hg9 hgg hM9 hM8 hgrow9 hown9 hrow8 hx08 hx8 hnew hx7 hrow hx10
     go_wp2_with fail
     refine gQ_normal ⟨rfl, ?_⟩
     go_wp2_with fail
     go_roundw
     case rel => exact ⟨j + 1, _, _, by simp, by omega, HM11, HO11.out, Lib.hid (.inr ⟨by omega, rfl⟩), hg12⟩
     case measure => simp [intOf]; omega
    ·have hd2 : decide (j < xs.length) = false := decide_eq_false hlt2
     obtain rfl : j = xs.length := by omega
     have HD := Lib.hid (show MapIs wr mb (kv ++ [(.int .i32 kz, v)]) from by
      rcases hcase.out with ⟨h0, _⟩ | ⟨_, h1⟩
      ·omega
      ·rw [← h1]; exact hM.out)
     rw [List.take_of_length_le (Nat.le_refl _)] at hrow
     have HR2 := HR.out.snoc hg2 (show mb ≤ Wi.heap.size from Nat.le_of_lt HR.out.1.lt) HD.out (l := xs.map fun x => ((hexV x : Nat) : Int)) (by rw [List.length_map]; exact hrow)
     have hgT := hg.trans hg2
     have hE2 : (L.take (i + 1)).map entOf = (L.take i).map entOf ++ [(kz, xs.map fun x => ((hexV x : Nat) : Int))] := by
      rw [List.take_add_one, List.getElem?_eq_getElem hlt, hws, List.map_append]
      simp [entOf, HKZ.out]
     rw [← hE2] at HR2
     have HRR := Lib.hid HR2
     clear HR2 hE2 hrow hM hcase hg2 hmr
     go_wp2_with fail
     go_roundw
     case rel => exact ⟨i + 1, _, by simp, by omega, HRR.out, hgT⟩
     case measure => simp [intOf]; omega
  ·have hd : decide (i < L.length) = false := decide_eq_false hlt
   obtain rfl : i = L.length := by omega
   rw [List.take_length] at hR
   have HR := Lib.hid hR
   have hmbw : w.heap.size ≤ mb := Nat.le_of_eq hwn.out
   have hxw : Ext w Wi := Below.grown hx01 hg hx01.sz (fun k e => by cases e; exact hmbw)
   clear hR hM0
   go_wp2_with fail
   go_ret
   exact ⟨mb, kv, rfl, hmbw, ⟨HR.out.1, HR.out.2.1, fun i h h' => let ⟨v, e, hr⟩ := HR.out.2.2 i h h'; ⟨v, e, own_lower hr hmbw⟩⟩, hxw⟩
end Go.Proofs.YtokeamebcdhnpaaGreatDoor
