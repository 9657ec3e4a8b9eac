/-
  However a text is cut, all that is told is its form.
-/
import Derived.Test.YteokfknkcbmigaaGreatDoorTexts
namespace Go.Proofs.YteokfknkcbmigaaGreatDoor
open Go.RowKit Go.Rp Go.Shelf Go.Maps Go.Nm

theorem c_WriteA (W1 : World) (nb tB xB pb pc : Nat) (f : Int) (hf : 0 ≤ f ∧ f ≤ 3) (ws : ByteArray) (pl : List UInt8) (w : World) (h : StrAt W1 nb tB xB f ws w)
    (hp : ∀ j (h : j < pl.length), w.cell? ⟨pb, j, none⟩ = some (.int .u8 pl[j].toNat)) (hs : ws.size + pl.length ≤ 1000000) :
    Calls Tryz.prog 21 #[.pointer (some ⟨xB, 0, none⟩), .slice (some ⟨pb, 0, none⟩) pl.length pc] w fun e w' => ∃ res ws' : ByteArray, e = .returned (.string res) ∧ StrAt W1 nb tB xB f ws' w' ∧ Hid ((∀ t, res.data.toList ++ formT f (ws'.data.toList ++ t) = formT f (ws.data.toList ++ pl ++ t)) ∧ ws'.size ≤ ws.size + pl.length) := by
  by_cases h0 : ws.size + pl.length = 0
  · obtain rfl : pl = [] := List.length_eq_zero_iff.1 (by omega)
    refine (c_Write0 W1 nb tB xB pb pc f ws w (by simpa using h0) h).mono ?_
    rintro e w' ⟨he, hs'⟩
    exact ⟨_, ws, he, hs', Lib.hid ⟨fun t => by simp, Nat.le_refl _⟩⟩
  · obtain ⟨vs, hvs⟩ : ∃ vs : ByteArray, vs.data.toList = ws.data.toList ++ pl := ⟨⟨(ws.data.toList ++ pl).toArray⟩, by simp⟩
    have hvl : vs.size = ws.size + pl.length := by rw [← len_eq, hvs, List.length_append, len_eq]
    obtain ⟨k, hk⟩ := cut_some (vs.data.toList.take (wholeN vs.data.toList)) f
    refine (c_Write W1 nb tB xB pb pc f hf ws vs pl k w h hp hvs (by omega) (by omega) hk).mono ?_
    rintro e w' ⟨he, hs'⟩
    refine ⟨_, _, he, hs', Lib.hid ⟨?_, ?_⟩⟩
    · intro t
      rw [← hvs]
      exact told_heldT hk t
    · rw [← len_eq]
      show (vs.data.toList.drop k).length ≤ _
      rw [List.length_drop, len_eq]
      omega
set_option maxRecDepth 100000 in
set_option maxHeartbeats 8000000 in
theorem c_Pieces (f : Int) (v : Value) (l : List ByteArray) (w : World) (hT : Tabs w) (h : StrRow w v l) (hs : ∀ s ∈ l, s.size ≤ 140737488351232) : Calls Tryz.prog 6 #[.int .i64 f, v] w fun e w' => e = .returned (.bool true) ∧ Ext w w' := by
  by_cases hb : 100 < l.length ∨ 90 < total l
  · have HL := Lib.hid (c_long v l true w h hs ⟨fun _ => hb, fun _ => rfl⟩)
    clear hb hs h
    go_enter Tryz.func6, Tryz.ntmps6
    go_wp2_with fail
    refine HL.out.mono ?_
    rintro e w1 ⟨rfl, hx1⟩
    have HX1 := Lib.hid hx1
    clear hx1
    go_wp2_with fail
    refine (c_live w1 (hT.ext HX1.out)).mono ?_
    rintro e w9 ⟨rfl, hx9⟩
    have HX9 := Lib.hid (HX1.out.trans hx9)
    clear hx9
    go_wp2_with fail
    go_ret
    exact ⟨rfl, HX9.out⟩
  · have HL := Lib.hid (c_long v l false w h hs ⟨fun h => (by cases h), fun h => absurd h hb⟩)
    by_cases hf : 0 ≤ f ∧ f ≤ 3
    · have HB := Lib.hid (show l.length ≤ 100 ∧ total l ≤ 90 from ⟨by omega, by omega⟩)
      have HN := Lib.hid (fun w2 hT2 => c_New f hf w2 hT2)
      have HF := Lib.hid hf
      have HR := Lib.hid h
      obtain ⟨p, cap, rfl, _⟩ := h
      clear hb hf hs
      go_enter Tryz.func6, Tryz.ntmps6
      go_wp2_with fail
      refine HL.out.mono ?_
      rintro e w1 ⟨rfl, hx1⟩
      have HX1 := Lib.hid hx1
      clear hx1
      go_wp2_with fail
      refine (HN.out w1 (hT.ext HX1.out)).mono ?_
      rintro e w2 ⟨W1, nb, tB, xB, rfl, hst, hx2, hx12⟩
      have HX12 := Lib.hid (HX1.out.trans hx12)
      have HX2 := Lib.hid (HX1.out.trans hx2)
      have HS2 := Lib.hid hst
      clear hx2 hst hx12
      go_wp2_with fail
      refine (c_num 0 w2).mono ?_
      rintro e w3 ⟨rfl, e3⟩
      obtain rfl := e3.symm
      clear e3
      go_wp2_with fail
      go_loopw [7, 8, 9] (fun gv nv iv W => ∃ (k : Nat) (g ws : ByteArray), iv = .int .i64 (k : Nat) ∧ k ≤ l.length ∧ nv = .int .i64 (total (l.take k) : Nat) ∧ gv = .string g ∧ Hid ((∀ t, g.data.toList ++ formT f (ws.data.toList ++ t) = formT f (glueL (l.take k) ++ t)) ∧ ws.size ≤ total (l.take k)) ∧ Hid (StrAt W1 nb tB xB f ws W)) (fun _ _ iv _ => l.length + 1 - (intOf iv).toNat)
      case atStart => exact ⟨0, ⟨#[]⟩, ⟨#[]⟩, rfl, by omega, rfl, rfl, Lib.hid ⟨fun t => rfl, Nat.le_refl _⟩, HS2⟩
      case round =>
        clear HS2 HX2 HX1 HL HN
        obtain ⟨k, g, ws, rfl, hk, rfl, rfl, HG, HS⟩ := hrel
        by_cases hlt : k < l.length
        · have hd : decide (k < l.length) = true := decide_eq_true hlt
          have hI : ((k : Nat) : Int) < (l.length : Nat) := by omega
          obtain ⟨p', cap', hpc, hcells⟩ := HR.out.mono HX12.out
          obtain ⟨rfl, -, rfl⟩ := Value.slice.inj hpc
          obtain ⟨b', off, rfl, hb', hcell⟩ := hcells (by intro e; subst e; simp at hlt)
          have hckA : ∀ w', Ext W1 w' → w'.cell? ⟨b', off + k, none⟩ = some (.string l[k]) := fun w' hx => hx.cell (hcell k hlt)
          have HST := Lib.hid (And.intro (glueL_step l k hlt) (And.intro (total_step l k hlt) hlt))
          have htt := total_take l (k + 1)
          have HTT := Lib.hid htt
          clear hcell hcells htt hpc hb'
          generalize l[k] = s at hckA HST
          have HCK := Lib.hid hckA
          have hck := hckA wr HS.out.ext
          have hk1 : ((k : Nat) : Int) ≤ 100 := by have := HB.out.1; omega
          clear hckA
          have hcv := fun w => Lib.run_convert_string_bytes (P := Tryz.prog) w 9 38 5 s Tryz.underlying9 Tryz.underlying38 Tryz.underlying5
          go_wp2_with fail
          have hg := HG.out.2
          have h90 := HB.out.2
          have hst2 := HST.out.2.1
          have htt2 := HTT.out
          obtain ⟨hxb, hcb⟩ := bytes_of wr 5 s
          have hsb := HS.out.more hxb
          have HW := Lib.hid (fun pc => c_WriteA W1 nb tB xB wr.heap.size pc f HF.out ws s.data.toList (Lib.bytesWorld wr 5 s) hsb hcb (by rw [len_eq]; omega))
          simp only [len_eq] at HW
          clear hxb hcb hsb hcv
          refine (HW.out _).mono ?_
          rintro e w5 ⟨res, ws', rfl, hs5, hg5⟩
          have HS5 := Lib.hid hs5
          have hck5 := HCK.out w5 hs5.ext
          have HG5 := Lib.hid hg5
          have hres : g.size + res.size ≤ 140000 := by
            have e1 := congrArg List.length (HG.out.1 [])
            have e2 := congrArg List.length (hg5.out.1 [])
            have b1 := formT_len f (glueL (l.take k))
            have b2 := formT_len f (ws.data.toList ++ s.data.toList)
            rw [List.append_nil, List.append_nil, List.length_append, len_eq] at e1 e2
            rw [List.length_append, len_eq, len_eq] at b2
            rw [glueL_len] at b1
            omega
          have HRES := Lib.hid hres
          have hws5 := hg5.out.2
          have hHb : ((ws'.size : Nat) : Int) ≤ ((total (l.take k) : Nat) : Int) + (s.size : Nat) := by omega
          have hHc : ((total (l.take k) : Nat) : Int) + (s.size : Nat) ≤ 90 := by omega
          clear hs5 HW hck hg hg5 h90 hst2 htt2 hws5
          go_wp2_with fail
          have hH0 : ¬ ((ws'.size : Nat) : Int) < 0 := by omega
          refine (c_Held W1 nb tB xB f ws' w5 HS5.out).mono ?_
          rintro e w6 ⟨rfl, e6⟩
          obtain rfl := e6.symm
          clear e6
          go_wp2_with fail
          refine (c_Held W1 nb tB xB f ws' w5 HS5.out).mono ?_
          rintro e w6 ⟨rfl, e6⟩
          obtain rfl := e6.symm
          clear e6
          have hHd : ¬ ((total (l.take k) : Nat) : Int) + (s.size : Nat) < (ws'.size : Nat) := by omega
          go_wp2_with fail
          refine ⟨⟨k + 1, g ++ res, ws', by simp, by have := HST.out.2.2; omega, by rw [HST.out.2.1]; simp, rfl, Lib.hid ⟨?_, by rw [HST.out.2.1]; omega⟩, HS5⟩, by have := HST.out.2.2; simp [intOf]; omega⟩
          intro t
          have e5 := HG5.out.1 t
          have e0 := HG.out.1 (s.data.toList ++ t)
          rw [HST.out.1, ByteArray.data_append, Array.toList_append, List.append_assoc, e5, List.append_assoc, e0, List.append_assoc]
        · have hd : decide (k < l.length) = false := decide_eq_false hlt
          have hI : ¬ ((k : Nat) : Int) < (l.length : Nat) := by omega
          have hke : k = l.length := by omega
          have HK := Lib.hid hke
          clear hke hlt hk
          go_wp2_with fail
          refine (c_Close W1 nb tB xB f HF.out ws (by have := HG.out.2; have := total_take l k; have := HB.out.2; omega) wr HS.out).mono ?_
          rintro e w5 ⟨rfl, hs5⟩
          have HS5 := Lib.hid hs5
          clear hs5
          obtain ⟨z, hz⟩ : ∃ x : ByteArray, (⟨(formT f ws.data.toList).toArray⟩ : ByteArray) = x := ⟨_, rfl⟩
          obtain ⟨y, hy⟩ : ∃ x : ByteArray, (⟨(formT f (glueL l)).toArray⟩ : ByteArray) = x := ⟨_, rfl⟩
          obtain ⟨u, hu⟩ : ∃ x : ByteArray, (⟨(glueL l).toArray⟩ : ByteArray) = x := ⟨_, rfl⟩
          rw [hz]
          have hgz : g ++ z = y := by
            have h1 := HG.out.1 []
            rw [List.append_nil, List.append_nil, HK.out, List.take_length] at h1
            rw [← hz, ← hy, ← h1]
            apply ByteArray.ext
            simp
          have hyl : y.size ≤ 7200 := by
            have h1 := formT_len f (glueL l)
            rw [glueL_len] at h1
            rw [← hy]
            show (formT f (glueL l)).toArray.size ≤ 7200
            rw [List.size_toArray]
            have := HB.out.2
            omega
          have hsum : g.size + z.size ≤ 7200 := by
            rw [← ByteArray.size_append, hgz]
            exact hyl
          have HWH := Lib.hid (show ∀ w2, Ext w w2 → Calls Tryz.prog 24 #[.slice p l.length cap] w2 fun e w' => e = .returned (.string u) ∧ Ext w2 w' from fun w2 hx2 => by
            have h1 := HB.out.1
            have h2 := HB.out.2
            rw [← hu]
            exact c_wholeT _ l w2 (HR.out.mono hx2) (by omega) (by omega))
          have HFM := Lib.hid (show ∀ w2, Tabs w2 → Calls Tryz.prog 11 #[.string u, .int .i64 f] w2 fun e w' => e = .returned (.string y) ∧ Ext w2 w' from fun w2 hT2 => by
            rw [← hy]
            have h := c_Form u f w2 hT2 (by
              rw [← len_eq, ← hu]
              show (glueL l).length ≤ _
              rw [glueL_len]
              have := HB.out.2
              omega)
            rw [← hu] at h ⊢
            exact h)
          have hyy : ((g ++ z).toList == y.toList) = true := by rw [hgz]; simp
          have HYY := Lib.hid hyy
          clear hz hy hu hgz hyl hyy
          go_wp2_with fail
          refine (HWH.out w5 (HX12.out.trans HS5.out.ext)).mono ?_
          rintro e w6 ⟨rfl, hx6⟩
          have HS6 := Lib.hid (HS5.out.more hx6)
          clear hx6 hsum
          go_wp2_with fail
          refine (HFM.out w6 (hT.ext (HX12.out.trans HS6.out.ext))).mono ?_
          rintro e w7 ⟨rfl, hx7⟩
          have HS7 := Lib.hid (HS6.out.more hx7)
          clear hx7
          have hyy := HYY.out
          go_wp2_with fail
          refine (c_Held W1 nb tB xB f ⟨#[]⟩ w7 HS7.out).mono ?_
          rintro e w8 ⟨rfl, e8⟩
          obtain rfl := e8.symm
          clear e8
          have HXE := Lib.hid (HX12.out.trans HS7.out.ext)
          go_wp2_with fail
          refine (c_live w7 (hT.ext HXE.out)).mono ?_
          rintro e w9 ⟨rfl, hx9⟩
          have HX9 := Lib.hid (HXE.out.trans hx9)
          clear hx9
          go_wp2_with fail
          go_ret
          exact ⟨rfl, HX9.out⟩
    · have HN := Lib.hid (fun w2 => c_New_no f hf w2)
      clear hb hf hs h
      go_enter Tryz.func6, Tryz.ntmps6
      go_wp2_with fail
      refine HL.out.mono ?_
      rintro e w1 ⟨rfl, hx1⟩
      have HX1 := Lib.hid hx1
      clear hx1
      go_wp2_with fail
      refine (HN.out w1).mono ?_
      rintro e w2 ⟨rfl, e2⟩
      obtain rfl := e2.symm
      clear e2
      go_wp2_with fail
      refine (c_num 180 w1).mono ?_
      rintro e w3 ⟨rfl, e3⟩
      obtain rfl := e3.symm
      clear e3
      go_wp2_with fail
      refine (c_num 180 w1).mono ?_
      rintro e w4 ⟨rfl, e4⟩
      obtain rfl := e4.symm
      clear e4
      go_wp2_with fail
      refine (c_live w1 (hT.ext HX1.out)).mono ?_
      rintro e w9 ⟨rfl, hx9⟩
      have HX9 := Lib.hid (HX1.out.trans hx9)
      clear hx9
      go_wp2_with fail
      go_ret
      exact ⟨rfl, HX9.out⟩
end Go.Proofs.YteokfknkcbmigaaGreatDoor
