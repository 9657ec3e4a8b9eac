/-
  The law WrapWhole.
-/
import Derived.Test.YtlmkbldiicbejaaGreatDoorWrS
import Derived.Test.YtlmkbldiicbejaaGreatDoorLwA
namespace Go.Proofs.YtlmkbldiicbejaaGreatDoor
open Go.RowKit Go.Rp Go.Maps Go.Cl Go.Shelf Go.Gr Go.Ln

theorem rwW_len (l : List Rw) : (rwW l).length = l.length * 5 := by
  induction l with
  | nil => rfl
  | cons x l ih =>
    have e : rwW (x :: l) = [.int .i64 (x.f : Nat), .int .i64 (x.t : Nat), .int .i64 (x.e : Nat), .int .i64 x.i, .bool x.h] ++ rwW l := by simp [rwW]
    rw [e, List.length_append, ih]
    simp
    omega
theorem rwW_get : ∀ (l : List Rw) (i : Nat) (h : i < l.length), (rwW l)[i * 5]? = some (.int .i64 (l[i].f : Nat)) ∧ (rwW l)[i * 5 + 1]? = some (.int .i64 (l[i].t : Nat)) ∧ (rwW l)[i * 5 + 2]? = some (.int .i64 (l[i].e : Nat)) ∧ (rwW l)[i * 5 + 3]? = some (.int .i64 l[i].i) ∧ (rwW l)[i * 5 + 4]? = some (.bool l[i].h)
  | [], i, h => by simp at h
  | x :: l, 0, _ => by simp [rwW]
  | x :: l, i + 1, h => by
    have ih := rwW_get l i (by simpa using h)
    have e : rwW (x :: l) = [.int .i64 (x.f : Nat), .int .i64 (x.t : Nat), .int .i64 (x.e : Nat), .int .i64 x.i, .bool x.h] ++ rwW l := by simp [rwW]
    have key : ∀ k, (rwW (x :: l))[(i + 1) * 5 + k]? = (rwW l)[i * 5 + k]? := fun k => by
      rw [e, List.getElem?_append_right (by simp; omega)]
      congr 1
      simp
      omega
    have k0 := key 0
    rw [Nat.add_zero, Nat.add_zero] at k0
    rw [k0, key 1, key 2, key 3, key 4]
    simpa using ih
theorem okN_cases {r : Nat} (h : okN r = true) : r = 32 ∨ r = 10 ∨ r = 13 ∨ r = 11 ∨ r = 12 ∨ r = 133 ∨ r = 8232 ∨ r = 8233 ∨ r = 8203 := by
  simp [okN] at h
  omega
set_option maxRecDepth 100000 in
set_option maxHeartbeats 4000000 in
theorem c_Whole (a tb st W F R H : Int) (s : ByteArray) (w : World) (hT : TabsW w) (hs : s.size ≤ 140737488351232) :
    Calls Tryz.prog 9 #[.string s, .agg #[.int .i64 a, .int .i64 tb, .int .i64 st], .agg #[.int .i64 W, .int .i64 F, .int .i64 R, .int .i64 H]] w fun e w' => e = .returned (.bool true) ∧ Ext w w' := by
  have HL := Lib.hid (fun W' (h' : Ext w W') => c_live16 W' (hT.ext h'))
  by_cases hb1 : (60 : Int) < (s.size : Nat)
  · clear hT
    go_enter Tryz.func9, Tryz.ntmps9
    go_wp2_with fail
    refine (HL.out _ (((Ext.refl w).alloc _).alloc _)).mono ?_
    rintro e wl ⟨rfl, hxl⟩
    have HXL := Lib.hid ((((Ext.refl w).alloc _).alloc _).trans hxl)
    clear hxl
    go_wp2_with fail
    exact ret_one rfl rfl rfl ⟨rfl, HXL.out⟩
  · have HRW := Lib.hid (fun W' (h' : Ext w W') => c_RowsA a tb st W F R H s W' (hT.ext h') (by omega))
    clear hT
    have hsz : s.size ≤ 60 := by omega
    go_enter Tryz.func9, Tryz.ntmps9
    go_wp2_with fail
    have hb0 : ((w.alloc (.cells #[.int .i64 a, .int .i64 tb, .int .i64 st] 48)).alloc (.cells #[.int .i64 W, .int .i64 F, .int .i64 R, .int .i64 H] 24)).heap[w.heap.size + 1]? = some (.cells #[.int .i64 W, .int .i64 F, .int .i64 R, .int .i64 H] 24 (0, 0)) := by
      have := World.alloc_heap_new (w.alloc (.cells #[.int .i64 a, .int .i64 tb, .int .i64 st] 48)) (.cells #[.int .i64 W, .int .i64 F, .int .i64 R, .int .i64 H] 24)
      rwa [World.size_alloc] at this
    have hx0 : Ext w ((w.alloc (.cells #[.int .i64 a, .int .i64 tb, .int .i64 st] 48)).alloc (.cells #[.int .i64 W, .int .i64 F, .int .i64 R, .int .i64 H] 24)) := ((Ext.refl w).alloc _).alloc _
    generalize (w.alloc (.cells #[.int .i64 a, .int .i64 tb, .int .i64 st] 48)).alloc (.cells #[.int .i64 W, .int .i64 F, .int .i64 R, .int .i64 H] 24) = w0 at hb0 hx0 ⊢
    generalize w.heap.size + 1 = wb at hb0 ⊢
    refine (HRW.out w0 hx0).mono ?_
    rintro e w1 ⟨v, er, L, rfl, hll, hown, hE, hO, hx1⟩
    obtain ⟨p, cap, rfl⟩ := own_slice hown
    have HX1 := Lib.hid (hx0.trans hx1)
    have HWB := Lib.hid (hx1.blk hb0)
    have HOW := Lib.hid hown
    have HE := Lib.hid hE
    have HO := Lib.hid hO
    clear hx0 hx1 hb0 hown hE hO HRW
    go_wp2_with fail
    refine (c_num16 er w1).mono ?_
    rintro e w1 ⟨rfl, rfl⟩
    by_cases h0 : er = 0
    · subst h0
      have HR := Lib.hid (HO.out rfl)
      clear HO HE
      have hlI : ((L.length : Nat) : Int) ≤ 100 := by omega
      go_wp2_with fail
      go_loopw [9, 10, 11, 13] (fun av iv _ _ V => ∃ (i n : Nat), av = .int .i64 (n : Nat) ∧ iv = .int .i64 (i : Nat) ∧ i ≤ L.length ∧ Hid (RowsOk s F R n (L.drop i)) ∧ Hid (Ext w1 V)) (fun _ iv _ _ _ => L.length + 1 - (intOf iv).toNat)
      case atStart => exact ⟨0, 0, rfl, rfl, Nat.zero_le _, HR, Lib.hid (Ext.refl _)⟩
      case round =>
        obtain ⟨i, n, rfl, rfl, hi, HK, HX⟩ := hrel
        obtain ⟨V, rfl⟩ : ∃ V, V = wr := ⟨_, rfl⟩
        by_cases hil : i < L.length
        · have hI : ((i : Nat) : Int) < (L.length : Nat) := by omega
          have hd : decide (i < L.length) = true := decide_eq_true hil
          obtain ⟨gp, rfl, _, _, hgc⟩ := own_at HOW.out (by omega)
          obtain ⟨e0, e1, e2, e3, e4⟩ := rwW_get L i hil
          have hrl := rwW_len L
          have d0 := HX.out.cell ((hgc (i * 5) (by omega)).trans e0)
          have d1 := HX.out.cell ((hgc (i * 5 + 1) (by omega)).trans e1)
          have d2 := HX.out.cell ((hgc (i * 5 + 2) (by omega)).trans e2)
          have d3 := HX.out.cell ((hgc (i * 5 + 3) (by omega)).trans e3)
          have d4 := HX.out.cell ((hgc (i * 5 + 4) (by omega)).trans e4)
          have hk := HK.out
          rw [List.drop_eq_getElem_cons hil] at hk
          generalize L[i] = r at d0 d1 d2 d3 d4 hk
          obtain ⟨rf, rt, re, ri, rh⟩ := r
          obtain ⟨⟨k1, k2, k3, k4, k5⟩, k6, k7, k8⟩ := hk
          simp only at d0 d1 d2 d3 d4 k1 k2 k3 k4 k5 k6 k7 k8
          subst k1
          have HK6 := Lib.hid k6
          have HK7 := Lib.hid k7
          have HK8 := Lib.hid k8
          clear hgc e0 e1 e2 e3 e4 k6 k7 k8 hrl
          go_wp2_with fail
          have hrb := World.alloc_heap_new V (.cells #[.int .i64 (rf : Nat), .int .i64 (rt : Nat), .int .i64 (re : Nat), .int .i64 ri, .bool rh] 53)
          have hxr := (Ext.refl V).alloc (.cells #[.int .i64 (rf : Nat), .int .i64 (rt : Nat), .int .i64 (re : Nat), .int .i64 ri, .bool rh] 53)
          have hsz := World.size_alloc V (.cells #[.int .i64 (rf : Nat), .int .i64 (rt : Nat), .int .i64 (re : Nat), .int .i64 ri, .bool rh] 53)
          generalize V.alloc (.cells #[.int .i64 (rf : Nat), .int .i64 (rt : Nat), .int .i64 (re : Nat), .int .i64 ri, .bool rh] 53) = V1 at hrb hxr hsz ⊢
          generalize V.heap.size = rb at hrb hsz ⊢
          have HSI := Lib.hid hsz
          have HRB := Lib.hid hrb
          have HXR := Lib.hid (HX.out.trans hxr)
          clear hrb hxr hsz d0 d1 d2 d3 d4
          generalize s.extract rt re = t at HK6 ⊢
          go_loopw [13] (fun _ U => ∃ k pos : Nat, U.heap[rb + 1]? = some (.stringIter t pos) ∧ Hid (AtM t k pos) ∧ Hid (Ext V1 U)) (fun _ U => t.size - U.iterPos (rb + 1))
          case atStart => exact ⟨0, 0, by rw [← HSI.out]; exact World.iter_heap V1 t 0, Lib.hid (AtM.start t), Lib.hid ((Ext.refl V1).iter t 0)⟩
          case round =>
            obtain ⟨k, pos, hit, HA, HU⟩ := hrel
            obtain ⟨U, rfl⟩ : ∃ U, U = wr := ⟨_, rfl⟩
            have hpos := iterPos_of hit
            by_cases hlt : pos < t.size
            · have hnx : ∀ ty, (Instr.next (.pointer (some ⟨rb + 1, 0, none⟩)) true ty).run Tryz.prog U = _ := fun ty => Lib.run_next_any_at U (rb + 1) t pos ty hit hlt
              have HM := Lib.hid (HA.out.step hlt)
              have hd := dec_le t pos hlt
              have hok : okN (Utf8.decode t pos).1 = true := by
                obtain ⟨hk, hm, _⟩ := HM.out
                refine HK6.out _ ?_
                rw [← mk_runes]
                exact List.mem_map.2 ⟨_, List.getElem_mem hk, by rw [hm]⟩
              generalize Utf8.decode t pos = d at hnx HM hd hok
              obtain ⟨dr, dn⟩ := d
              simp only at hok hd
              have hx1 : Ext V1 _ := Lib.below_iterAt HU.out (by rw [HSI.out]; exact Nat.le_refl _) t (pos + dn)
              have hit1 := Lib.iterAt_heap U (rb + 1) t pos (pos + dn) hit
              generalize U.iterAt (rb + 1) t (pos + dn) = W1 at hnx hx1 hit1
              have HS1 := Lib.hid (And.intro hx1 hit1)
              have hoc := okN_cases hok
              have HMP := Lib.hid hpos
              clear hx1 hit1 hok hpos hit
              simp only at hnx
              rcases hoc with rfl | rfl | rfl | rfl | rfl | rfl | rfl | rfl | rfl
              all_goals (go_wp2_with fail)
              all_goals (obtain ⟨hk, hm, ha⟩ := HM.out)
              all_goals (exact ⟨⟨k + 1, pos + dn, HS1.out.2, Lib.hid ha, Lib.hid HS1.out.1⟩, by rw [iterPos_of HS1.out.2, HMP.out]; omega⟩)
            · have hnx : ∀ ty, (Instr.next (.pointer (some ⟨rb + 1, 0, none⟩)) true ty).run Tryz.prog U = _ := fun ty => Lib.run_next_end_at U (rb + 1) t pos ty hit hlt
              have r2 := (cell_blk (HU.out.blk HRB.out) 2).trans rfl
              have r3 := (cell_blk (HU.out.blk HRB.out) 3).trans rfl
              have o1 := (cell_blk ((HXR.out.trans HU.out).blk HWB.out) 1).trans rfl
              have o2 := (cell_blk ((HXR.out.trans HU.out).blk HWB.out) 2).trans rfl
              by_cases hF : ri = F
              · have hb2 : (ri != F) = false := by simp [hF]
                clear hF
                go_wp2_with fail
                exact ⟨⟨i + 1, re, rfl, by simp, by omega, HK8, Lib.hid (HXR.out.trans HU.out)⟩, by simp only [intOf]; omega⟩
              · have hb2 : (ri != F) = true := by simp [hF]
                have hb3 : (ri != R) = false := by simp [HK7.out.resolve_left hF]
                clear hF
                go_wp2_with fail
                exact ⟨⟨i + 1, re, rfl, by simp, by omega, HK8, Lib.hid (HXR.out.trans HU.out)⟩, by simp only [intOf]; omega⟩
        · have hI : ¬ ((i : Nat) : Int) < (L.length : Nat) := by omega
          have hd : decide (i < L.length) = false := decide_eq_false hil
          have hn : n = s.size := by
            have h := HK.out
            rw [List.drop_of_length_le (by omega)] at h
            exact h
          subst hn
          go_wp2_with fail
          refine (HL.out _ (HX1.out.trans HX.out)).mono ?_
          rintro e wl ⟨rfl, hxl⟩
          have HXL := Lib.hid ((HX1.out.trans HX.out).trans hxl)
          clear hxl
          go_wp2_with fail
          exact ret_one rfl rfl rfl ⟨rfl, HXL.out⟩
    · have HL0 := HE.out h0
      subst HL0
      have hb : (er != 0) = true := bne_iff_ne.2 h0
      clear HO HE h0
      go_wp2_with fail
      refine (HL.out _ HX1.out).mono ?_
      rintro e wl ⟨rfl, hxl⟩
      have HXL := Lib.hid (HX1.out.trans hxl)
      clear hxl
      go_wp2_with fail
      exact ret_one rfl rfl rfl ⟨rfl, HXL.out⟩
end Go.Proofs.YtlmkbldiicbejaaGreatDoor
