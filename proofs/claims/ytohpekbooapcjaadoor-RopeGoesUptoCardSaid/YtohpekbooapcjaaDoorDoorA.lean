/-
  The bytes around a place of a rope; whether the place is an edge; the rune that begins there.
-/
import Derived.Test.YtohpekbooapcjaaDoorDoorM
import Derived.Test.YtohpekbooapcjaaDoorShelf
namespace Go.Proofs.YtohpekbooapcjaaDoor
open Go.RowKit Go.Rp

theorem tabs_mono {w w' : World} (h : Ext w w') (hT : Lib.Utf8Tabs 0 1 w) : Lib.Utf8Tabs 0 1 w' := Utf8Tabs_below hT h

theorem c_DecodeRune (s : ByteArray) (w : World) (hT : Lib.Utf8Tabs 0 1 w) (hs : 0 < s.size) :
    Calls Tryd.prog 64 #[.string s] w fun e w' => e = .returned (.tuple #[.int .i32 (run s.data.toList : Nat), .int .i64 (wid s.data.toList : Nat)]) ∧ Ext w w' := by
  have h := Tryd.utf8_DecodeRuneInString s w hT
  have e : Lib.decodeGo s = dec s.data.toList := by
    unfold Lib.decodeGo
    rw [if_neg (by omega), dec_at]
    rfl
  rw [e] at h
  exact h

theorem c_Decode (s : ByteArray) (w : World) (hT : Lib.Utf8Tabs 0 1 w) (hs : 0 < s.size) :
    Calls Tryd.prog 59 #[.string s] w fun e w' => e = .returned (.tuple #[.int .i32 (run s.data.toList : Nat), .int .i64 (wid s.data.toList : Nat)]) ∧ Ext w w' := by
  have hne : s.data.toList ≠ [] := fun e => by
    have : s.size = 0 := by rw [← len_eq, e]; rfl
    omega
  have hne2 : (s.toList == []) = false := by
    rw [ByteArray.toList_eq]
    exact beq_false_of_ne hne
  have hne3 : ¬ s.toList = [] := by rw [ByteArray.toList_eq]; exact hne
  go_enter Tryd.func59, Tryd.ntmps59
  go_wp2_with fail
  refine (c_DecodeRune s _ hT hs).mono ?_
  rintro e w1 ⟨rfl, hx1⟩
  go_wp2_with fail
  exact ret_two rfl rfl rfl rfl ⟨rfl, hx1⟩

set_option maxRecDepth 100000 in
set_option maxHeartbeats 2000000 in
/-- utf.Is. -/
theorem c_Is (s : ByteArray) (k : Nat) (b : Bool) (w : World) (hb : b = true ↔ edge s.data.toList k) (hT : Lib.Utf8Tabs 0 1 w) (hs : s.size ≤ 1099511627776) (hk : k ≤ s.size) :
    Calls Tryd.prog 63 #[.string s, .int .i64 (k : Nat)] w fun e w' => e = .returned (.bool b) ∧ Ext w w' := by
  have HB := Lib.hid hb
  clear hb
  have hk2 : ¬ s.size < k := by omega
  have hk3 : ¬ ((s.size : Nat) : Int) < (k : Nat) := by omega
  go_enter Tryd.func63, Tryd.ntmps63
  go_wp2_with fail
  go_loopw [5, 6, 7] (fun i _ _ w' => ∃ j : Nat, i = .int .i64 (j : Nat) ∧ 1 ≤ j ∧ j ≤ 4 ∧ j ≤ k + 1 ∧ Hid (∀ q, q < k → k < q + j → q + wid (s.data.toList.drop q) ≤ k) ∧ Ext w w') (fun i _ _ _ => 5 - (intOf i).toNat)
  case atStart => exact ⟨1, rfl, by omega, by omega, by omega, fun q h1 h2 => by omega, Ext.refl w⟩
  case round =>
    obtain ⟨j, rfl, h1, h2, h3, hinv, hX⟩ := hrel
    by_cases hlt : j < 4 ∧ j ≤ k
    · obtain ⟨g1, g2⟩ := hlt
      have HS := Lib.hid (show (k : Int) - (j : Nat) = ((k - j : Nat) : Int) by omega)
      have hz : 0 < (s.extract (k - j) s.size).size := by rw [ByteArray.size_extract]; omega
      have hl : (s.extract (k - j) s.size).data.toList = s.data.toList.drop (k - j) := by
        rw [toList_extract, take_all (by rw [List.length_drop, len_eq]; omega)]
      have hk1 : k - j ≤ s.size := by omega
      have hw4 := wid_le4 (s.data.toList.drop (k - j))
      have hw1 := wid_pos (s.data.toList.drop (k - j))
      have HL := Lib.hid hl
      clear hl
      go_wp2_with fail
      try rw [HS.out]
      refine (c_DecodeRune (s.extract (k - j) s.size) _ (tabs_mono hX hT) hz).mono ?_
      rintro e w1 ⟨rfl, hx1⟩
      rw [HL.out]
      by_cases hw : j < wid (s.data.toList.drop (k - j))
      · have hw2 : (((wid (s.data.toList.drop (k - j)) : Nat) : Int) == 1) = false := beq_false_of_ne (by omega)
        have hno : ¬ edge s.data.toList k := fun he => by
          have := he (k - j) (by omega)
          omega
        have hbf : b = false := by
          cases b with
          | false => rfl
          | true => exact absurd (HB.out.1 rfl) hno
        clear hno
        subst hbf
        go_wp2_with fail
        all_goals exact ret_one rfl rfl rfl ⟨rfl, hX.trans hx1⟩
      · go_wp2_with fail
        go_roundw
        case rel => exact ⟨j + 1, by go_num, by omega, by omega, by omega, fun q e1 e2 => by
          by_cases hq : k < q + j
          · exact hinv.out q e1 hq
          · obtain rfl : q = k - j := by omega
            omega, hX.trans hx1⟩
        case measure => simp [intOf]; omega
    · have hend : edge s.data.toList k := by
        intro q hq
        by_cases hj : k < q + j
        · exact hinv.out q hq hj
        · have := wid_le4 (s.data.toList.drop q)
          omega
      have hbt : b = true := HB.out.2 hend
      subst hbt
      clear hend
      by_cases hlt2 : j < 4
      · have hkj : k < j := by omega
        clear hlt
        go_wp2_with fail
        exact ret_one rfl rfl rfl ⟨rfl, hX⟩
      · clear hlt
        go_wp2_with fail
        exact ret_one rfl rfl rfl ⟨rfl, hX⟩

theorem ownsRow_ext {W W' : World} {base : Nat} {e : TypeId} {size : Nat} {v : Value} {n : Nat} {xs : List Value} (h : W.ownsRow base e size v n xs) (hx : Ext W W') : W'.ownsRow base e size v n xs := by
  obtain ⟨h1, h2⟩ := h
  refine ⟨h1, ?_⟩
  rcases h2 with h2 | ⟨g, cap, cur, rfl, a1, a2, a3⟩
  · exact .inl h2
  · exact .inr ⟨g, cap, cur, rfl, a1, hx.blk a2, a3⟩
theorem cell1_new (w : World) (a : Value) (t : TypeId) : ∀ j u, [a][j]? = some u → (w.alloc (.cells #[a] t)).cell? ((⟨w.heap.size, 0, none⟩ : Addr).add j) = some u := by
  intro j u h
  have hj : j = 0 := by
    have := (List.getElem?_eq_some_iff.1 h).1
    simp at this
    omega
  subst hj
  simp at h
  subst h
  simp [Addr.add]
theorem str_next (s : ByteArray) (a q : Nat) (ha : a ≤ q) (hq : q < s.size) : Lib.strCells (s.extract a (q + 1)) = Lib.strCells (s.extract a q) ++ [.int .u8 (bytN s q)] := by
  have e : s.extract a (q + 1) = s.extract a q ++ s.extract q (q + 1) := by
    rw [ByteArray.extract_append_extract]
    rw [Nat.min_eq_left ha, Nat.max_eq_right (by omega)]
  have e2 : (s.extract q (q + 1)).data.toList = [s[q]] := by
    rw [toList_extract, show q + 1 - q = 1 from by omega]
    rw [List.drop_eq_getElem_cons (by rw [len_eq]; exact hq)]
    rfl
  rw [e, strCells_append]
  congr 1
  show (s.extract q (q + 1)).data.toList.map _ = _
  rw [e2, ← bytN_eq s q hq]
  rfl

set_option maxRecDepth 100000 in
set_option maxHeartbeats 4000000 in
/-- The bytes around a place. -/
theorem c_near (v : Value) (o : Option T) (k : Nat) (w : World) (h : IsRope w v o) (h0 : 0 < (txt o).size) (hs : (txt o).size ≤ 1048576) (hk : k ≤ (txt o).size) :
    Calls Tryd.prog 58 #[v, .int .i64 (k : Nat)] w fun e w' => e = .returned (.tuple #[.string ((txt o).extract (k - 3) (min (txt o).size (k + 4))), .int .i64 ((k - (k - 3) : Nat) : Int)]) ∧ Ext w w' := by
  obtain ⟨i0, hi, hz0, hz1, hz2⟩ := info_parts Tryd.infoB
  cases h with
  | nil => simp [txt] at h0
  | mk b n' o hn' hc =>
    rcases hn'.iface with ⟨rfl, rfl⟩ | ⟨T0, x0, t0, rfl, rfl, hn0⟩
    · simp [txt] at h0
    · have hr := IsRope.mk b _ (some t0) hn' hc
      obtain ⟨s, hse⟩ : ∃ s, txt (some t0) = s := ⟨_, rfl⟩
      have hcan := can_byte hn0 hs
      rw [show t0.text = s from hse] at hcan
      have HT := Lib.hid hse
      have hsz : (txt (some t0)).size = s.size := by rw [hse]
      rw [hse] at hs hk h0
      rw [hse]
      clear hse
      obtain ⟨a, ha⟩ : ∃ a, k - 3 = a := ⟨_, rfl⟩
      obtain ⟨z, hz⟩ : ∃ z, min s.size (k + 4) = z := ⟨_, rfl⟩
      have ha1 : max (0 : Int) ((k : Int) - 3) = (a : Nat) := by omega
      have hz1' : min ((s.size : Nat) : Int) ((k : Int) + 3 + 1) = (z : Nat) := by omega
      have b1 : a ≤ k := by omega
      have b2 : k ≤ z := by omega
      have b3 : z ≤ s.size := by omega
      have b4 : z ≤ a + 7 := by omega
      rw [ha, hz]
      have HA := Lib.hid ha1
      clear ha hz ha1
      go_enter Tryd.func58, Tryd.ntmps58
      go_upto_region 3 with fail
      rw [HA.out]
      go_wp2_with fail
      go_loopw [7, 8] (fun x i w' => ∃ q : Nat, i = .int .i64 (q : Nat) ∧ a ≤ q ∧ q ≤ z ∧ w'.ownsRow w.heap.size 5 1 x (q - a) (Lib.strCells (s.extract a q)) ∧ Ext w w') (fun _ i _ => z - (intOf i).toNat)
      case atStart => exact ⟨a, rfl, Nat.le_refl _, by omega, by
        rw [show s.extract a a = ByteArray.empty from ext_ba (by rw [toList_extract]; simp), Nat.sub_self]
        exact World.ownsRow_nil _ _ _ _, Ext.refl w⟩
      case round =>
        obtain ⟨q, rfl, h1, h2, hown, hX⟩ := hrel
        by_cases hlt : q < z
        · have hc2 := cell_blk (hX.blk hc)
          go_wp2_with fail
          refine (c_Len _ (some t0) _ (hr.mono hX) (by omega)).mono ?_
          rintro e w1 ⟨rfl, hx1⟩
          rw [hsz]
          have hc3 := cell_blk ((hX.trans hx1).blk hc)
          go_wp2_with fail
          refine upon_byte q hcan (hX.trans hx1) (by omega) rfl (fun w3 hx3 => ?_)
          have hown3 := ownsRow_ext (ownsRow_ext hown hx1) hx3
          clear hc2 hc3 hown
          have hX3 := hX.trans (hx1.trans hx3)
          go_wp2_with (at_builtin; refine wpList_append_own _ rfl (.tmp 23) (.tmp 30) 43 rfl w.heap.size 5 i0 (.int .u8 0) 1 1 Tryd.underlying43 hi hz0 hz1 hz2 rfl (by decide) _ _ _ rfl (hown3.alloc _) ⟨_, 0, none⟩ 1 1 [.int .u8 (bytN s q)] rfl rfl ?d1 ?d2 ?d3 ?d4 ?d5 ?_)
          case d1 => exact cell1_new _ _ _
          case d2 => simp [Value.oneCell']
          case d3 => unfold maxLen; omega
          case d4 => omega
          case d5 => have := hX3.sz; simp; omega
          intro v' w4 hown4 hgrow _
          have hX4 : Ext w w4 := Below.grown (hX3.alloc _) hgrow (hX3.alloc _).sz (fun j hj => (hown3.lt j hj).1)
          have hown5 : w4.ownsRow w.heap.size 5 1 v' (q + 1 - a) (Lib.strCells (s.extract a (q + 1))) := by
            rw [str_next s a q h1 (by omega), show q + 1 - a = q - a + 1 from by omega]
            exact hown4
          clear hown4 hgrow hown3
          go_wp2_with fail
          go_roundw
          case rel => exact ⟨q + 1, by go_num, by omega, by omega, hown5, hX4⟩
          case measure => simp [intOf]; omega
        · have hmn : ¬ ((q : Int) < (z : Nat)) := by omega
          go_wp2_with fail
          refine (c_Len _ (some t0) _ (hr.mono hX) (by omega)).mono ?_
          rintro e w1 ⟨rfl, hx1⟩
          rw [hsz]
          obtain rfl : q = z := by omega
          have hcv := conv_str (ownsRow_ext hown hx1)
          have hsub : (k : Int) - (a : Nat) = ((k - a : Nat) : Int) := by omega
          go_wp2_with fail
          exact ret_two rfl rfl rfl rfl ⟨rfl, hX.trans hx1⟩

theorem edge_window (l : List UInt8) (k z : Nat) (hk : k ≤ l.length) (hz : z = min l.length (k + 4)) : edge ((l.drop (k - 3)).take (z - (k - 3))) (k - (k - 3)) ↔ edge l k := by
  have key : ∀ j, k - 3 + j < k → wid (((l.drop (k - 3)).take (z - (k - 3))).drop j) = wid (l.drop (k - 3 + j)) := by
    intro j hj
    rw [List.drop_take, List.drop_drop]
    exact wid_takes _ _ (by rw [List.length_drop]; omega)
  constructor
  · intro h j hj
    by_cases h3 : k - 3 ≤ j
    · have h1 := h (j - (k - 3)) (by omega)
      rw [key _ (by omega), show k - 3 + (j - (k - 3)) = j from by omega] at h1
      omega
    · have := wid_le4 (l.drop j)
      omega
  · intro h j hj
    rw [key _ (by omega)]
    have := h (k - 3 + j) (by omega)
    omega

set_option maxRecDepth 100000 in
set_option maxHeartbeats 2000000 in
/-- Is a place an edge? -/
theorem c_edge (v : Value) (o : Option T) (k : Nat) (b : Bool) (w : World) (h : IsRope w v o) (hT : Lib.Utf8Tabs 0 1 w) (h0 : 0 < (txt o).size) (hs : (txt o).size ≤ 1048576) (hk : k ≤ (txt o).size) (hb : b = true ↔ edge (txt o).data.toList k) :
    Calls Tryd.prog 56 #[v, .int .i64 (k : Nat)] w fun e w' => e = .returned (.bool b) ∧ Ext w w' := by
  have hX := Ext.refl w
  have hl := len_eq (txt o)
  have hwin := edge_window (txt o).data.toList k (min (txt o).size (k + 4)) (by omega) (by rw [hl])
  rw [← toList_extract] at hwin
  have HB := Lib.hid (hb.trans hwin.symm)
  have HB0 := Lib.hid hb
  have z2 : ((txt o).extract (k - 3) (min (txt o).size (k + 4))).size ≤ 7 := by rw [ByteArray.size_extract]; omega
  have z3 : k - (k - 3) ≤ ((txt o).extract (k - 3) (min (txt o).size (k + 4))).size := by rw [ByteArray.size_extract]; omega
  clear hb hwin
  go_enter Tryd.func56, Tryd.ntmps56
  go_wp2_with fail
  refine (c_near v o k _ h h0 hs hk).mono ?_
  rintro e u1 ⟨rfl, hx⟩
  replace hX := hX.trans hx
  replace h := h.mono hx
  clear hx
  go_wp2_with fail
  refine (c_Len v o _ h (by omega)).mono ?_
  rintro e u2 ⟨rfl, hx⟩
  replace hX := hX.trans hx
  replace h := h.mono hx
  clear hx
  by_cases he : k = (txt o).size
  · have hbt : b = true := HB0.out.2 (by rw [he, ← hl]; exact edge_end _)
    subst hbt
    have he2 : ((k : Int) == ((txt o).size : Nat)) = true := by rw [he]; simp
    go_wp2_with fail
    exact ret_one rfl rfl rfl ⟨rfl, hX⟩
  · have he2 : ((k : Int) == ((txt o).size : Nat)) = false := beq_false_of_ne (by omega)
    go_wp2_with fail
    refine (c_Is _ _ b _ HB.out (tabs_mono hX hT) (by omega) z3).mono ?_
    rintro e u3 ⟨rfl, hx⟩
    replace hX := hX.trans hx
    clear hx
    go_wp2_with fail
    exact ret_one rfl rfl rfl ⟨rfl, hX⟩
end Go.Proofs.YtohpekbooapcjaaDoor
