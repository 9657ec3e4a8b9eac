/-
  Bytes, runes, numbers of runes, units, lines, and their places: the walk of RopePlaces.
-/
import Derived.Test.YtohpekbooapcjaaDoorPlaceC
import Derived.Test.YtohpekbooapcjaaDoorTells
namespace Go.Proofs.YtohpekbooapcjaaDoor
open Go.RowKit Go.Rp

set_option maxRecDepth 100000 in
set_option maxHeartbeats 8000000 in
/-- Does a rope tell what its text says of a number? -/
theorem c_place (v : Value) (o : Option T) (q : Int) (w : World) (h : IsRope w v o) (hT : Lib.Utf8Tabs 0 1 w) (hs : (txt o).size ≤ 1048576) (h64 : q ≤ 9223372036854775807) :
    Calls Tryd.prog 21 #[v, .string (txt o), .int .i64 q] w fun e w' => e = .returned (.bool true) ∧ Ext w w' := by
  have hX := Ext.refl w
  obtain ⟨a1, b1, p1, r1⟩ := pair_Byte v o q hs
  obtain ⟨a2, b2, p2, r2⟩ := pair_AtRune v o q hs
  obtain ⟨a3, b3, p3, r3⟩ := pair_AtUnit v o q hs
  obtain ⟨a4, b4, p4, r4⟩ := pair_AtLine v o q hs h64
  have c1 : ∀ W, IsRope W v o → Lib.Utf8Tabs 0 1 W → _ := fun W hr ht => c_Rune v o q W hr ht hs
  have c2 := fun W => c_refRune (txt o) q W (by omega)
  have c3 := fun W => c_refRuneOf (txt o) q W hs
  have c4 : ∀ W, IsRope W v o → Lib.Utf8Tabs 0 1 W → _ := fun W hr ht => c_RuneOf v o q W hr ht hs
  have c5 : ∀ W, IsRope W v o → Lib.Utf8Tabs 0 1 W → _ := fun W hr ht => c_UnitOf v o q W hr ht hs
  have c6 := fun W hr => c_LineOf v o q W hr hs
  have c7 := fun W => c_refLineOf (txt o) q W hs
  generalize (runeAt (marks (txt o).size (txt o).data.toList 0) q).1 = x1 at *
  generalize (runeAt (marks (txt o).size (txt o).data.toList 0) q).2 = x2 at *
  generalize gR (txt o).data.toList (clampN q (txt o)) = x3 at *
  generalize gU (txt o).data.toList (clampN q (txt o)) = x4 at *
  generalize nBreaks ((txt o).extract 0 (clampN q (txt o))) = x5 at *
  have P1 := Lib.hid p1
  have R1 := Lib.hid r1
  have P2 := Lib.hid p2
  have R2 := Lib.hid r2
  have P3 := Lib.hid p3
  have R3 := Lib.hid r3
  have P4 := Lib.hid p4
  have R4 := Lib.hid r4
  have C1 := Lib.hid c1
  have C2 := Lib.hid c2
  have C3 := Lib.hid c3
  have C4 := Lib.hid c4
  have C5 := Lib.hid c5
  have C6 := Lib.hid c6
  have C7 := Lib.hid c7
  clear p1 r1 p2 r2 p3 r3 p4 r4 c1 c2 c3 c4 c5 c6 c7
  go_enter Tryd.func21, Tryd.ntmps21
  go_wp2_with fail
  refine (P1.out _ h).mono ?_
  rintro e u1 ⟨rfl, hx⟩
  replace hX := hX.trans hx
  replace h := h.mono hx
  clear hx
  go_wp2_with fail
  refine (R1.out _).mono ?_
  rintro e u2 ⟨rfl, hx⟩
  replace hX := hX.trans hx
  replace h := h.mono hx
  clear hx
  go_wp2_with fail
  refine (C1.out _ h (tabs_mono hX hT)).mono ?_
  rintro e u3 ⟨rfl, hx⟩
  replace hX := hX.trans hx
  replace h := h.mono hx
  clear hx
  go_wp2_with fail
  refine (C2.out _).mono ?_
  rintro e u4 ⟨rfl, hx⟩
  replace hX := hX.trans hx
  replace h := h.mono hx
  clear hx
  go_wp2_with fail
  refine (C3.out _).mono ?_
  rintro e u5 ⟨rfl, hx⟩
  replace hX := hX.trans hx
  replace h := h.mono hx
  clear hx
  go_wp2_with fail
  refine (P2.out _ h (tabs_mono hX hT)).mono ?_
  rintro e u6 ⟨rfl, hx⟩
  replace hX := hX.trans hx
  replace h := h.mono hx
  clear hx
  go_wp2_with fail
  refine (R2.out _).mono ?_
  rintro e u7 ⟨rfl, hx⟩
  replace hX := hX.trans hx
  replace h := h.mono hx
  clear hx
  go_wp2_with fail
  refine (P3.out _ h (tabs_mono hX hT)).mono ?_
  rintro e u8 ⟨rfl, hx⟩
  replace hX := hX.trans hx
  replace h := h.mono hx
  clear hx
  go_wp2_with fail
  refine (R3.out _).mono ?_
  rintro e u9 ⟨rfl, hx⟩
  replace hX := hX.trans hx
  replace h := h.mono hx
  clear hx
  go_wp2_with fail
  refine (P4.out _ h).mono ?_
  rintro e u10 ⟨rfl, hx⟩
  replace hX := hX.trans hx
  replace h := h.mono hx
  clear hx
  go_wp2_with fail
  refine (R4.out _).mono ?_
  rintro e u11 ⟨rfl, hx⟩
  replace hX := hX.trans hx
  replace h := h.mono hx
  clear hx
  go_wp2_with fail
  refine (C4.out _ h (tabs_mono hX hT)).mono ?_
  rintro e u12 ⟨rfl, hx⟩
  replace hX := hX.trans hx
  replace h := h.mono hx
  clear hx
  go_wp2_with fail
  refine (C5.out _ h (tabs_mono hX hT)).mono ?_
  rintro e u13 ⟨rfl, hx⟩
  replace hX := hX.trans hx
  replace h := h.mono hx
  clear hx
  go_wp2_with fail
  refine (C6.out _ h).mono ?_
  rintro e u14 ⟨rfl, hx⟩
  replace hX := hX.trans hx
  replace h := h.mono hx
  clear hx
  go_wp2_with fail
  refine (C7.out _).mono ?_
  rintro e u15 ⟨rfl, hx⟩
  replace hX := hX.trans hx
  replace h := h.mono hx
  clear hx
  go_wp2_with fail
  exact ret_one rfl rfl rfl ⟨rfl, hX⟩

set_option maxRecDepth 100000 in
set_option maxHeartbeats 8000000 in
theorem c_Places (v : Value) (l : List ByteArray) (at_ : Int) (w : World) (h : StrRow w v l) (hT : Lib.Utf8Tabs 0 1 w) (hs : ∀ s ∈ l, s.size ≤ 140737488351232) (h64 : at_ ≤ 9223372036854775807) :
    Calls Tryd.prog 5 #[v, .int .i64 at_] w fun e w' => e = .returned (.bool true) ∧ Ext w w' := by
  have hX := Ext.refl w
  obtain ⟨pv, cv, rfl⟩ := h.form
  by_cases hw : 200 < l.length ∨ (300 : Int) < (total l : Nat)
  · have HW := Lib.hid hw
    clear hw
    go_enter Tryd.func5, Tryd.ntmps5
    go_wp2_with fail
    refine (c_wide _ l 300 true _ h hs ⟨fun _ => HW.out, fun _ => rfl⟩).mono ?_
    rintro e u16 ⟨rfl, hx⟩
    replace hX := hX.trans hx
    clear hx
    go_wp2_with fail
    refine (c_live _).mono ?_
    rintro e u17 ⟨rfl, hx⟩
    replace hX := hX.trans hx
    clear hx
    go_wp2_with fail
    exact ret_one rfl rfl rfl ⟨rfl, hX⟩
  have hw1 : l.length ≤ 200 := by omega
  have hw2 : total l ≤ 300 := by omega
  have HW := Lib.hid hw
  clear hw
  go_enter Tryd.func5, Tryd.ntmps5
  go_wp2_with fail
  refine (c_wide _ l 300 false _ h hs ⟨fun h => (by cases h), fun h => absurd h HW.out⟩).mono ?_
  rintro e u18 ⟨rfl, hx⟩
  replace hX := hX.trans hx
  replace h := h.mono hx
  clear hx
  go_wp2_with fail
  refine (c_made _ l _ h hw1 (by omega)).mono ?_
  rintro e u19 ⟨r, o, rfl, hr, ho, hx⟩
  replace hX := hX.trans hx
  clear hx
  have hsz : (txt o).size ≤ 300 := by rw [ho, glue_size]; omega
  have HO := Lib.hid ho
  have hszI : (txt o).size ≤ 1048576 := by omega
  clear ho
  rw [← HO.out]
  go_wp2_with fail
  refine (c_tells r o (txt o) _ hr rfl hszI).mono ?_
  rintro e wT ⟨rfl, hx⟩
  replace hX := hX.trans hx
  replace hr := hr.mono hx
  clear hx
  go_wp2_with fail
  go_loopw [8] (fun x w' => ∃ i : Int, x = .int .i64 i ∧ -1 ≤ i ∧ i ≤ 302 ∧ Ext wT w') (fun x _ => 303 - (intOf x + 1).toNat)
  case atStart => exact ⟨-1, rfl, by omega, by omega, Ext.refl _⟩
  case round =>
    obtain ⟨i, rfl, h1, h2, hx2⟩ := hrel
    by_cases hlt : i ≤ ((txt o).size : Nat) + 1
    · go_wp2_with fail
      refine (c_place r o i _ (hr.mono hx2) (tabs_mono (hX.trans hx2) hT) hszI (by omega)).mono ?_
      rintro e w2 ⟨rfl, hy⟩
      go_wp2_with fail
      go_roundw
      case rel => exact ⟨i + 1, by go_num, by omega, by omega, hx2.trans hy⟩
      case measure => simp [intOf]; omega
    · have hgt : ((txt o).size : Nat) + 1 < i := by omega
      clear hlt
      go_wp2_with fail
      refine (c_place r o at_ _ (hr.mono hx2) (tabs_mono (hX.trans hx2) hT) hszI h64).mono ?_
      rintro e w2 ⟨rfl, hy⟩
      go_wp2_with fail
      refine (c_live _).mono ?_
      rintro e w3 ⟨rfl, hy2⟩
      go_wp2_with fail
      exact ret_one rfl rfl rfl ⟨rfl, hX.trans (hx2.trans (hy.trans hy2))⟩
end Go.Proofs.YtohpekbooapcjaaDoor
