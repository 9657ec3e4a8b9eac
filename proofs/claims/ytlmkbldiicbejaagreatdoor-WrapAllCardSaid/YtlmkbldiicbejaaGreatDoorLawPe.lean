/-
  The law WrapAll.
-/
import Derived.Test.YtlmkbldiicbejaaGreatDoorLwB
import Derived.Test.YtlmkbldiicbejaaGreatDoorApX
namespace Go.Proofs.YtlmkbldiicbejaaGreatDoor
open Go.RowKit Go.Rp Go.Maps Go.Cl Go.Shelf Go.Gr Go.Ln

theorem gB_m {l : List BxI} {j : Nat} (hj : j < l.length) : (Wp.gB (l.map unB) j).m = l[j].m := by
  unfold Wp.gB
  rw [List.getD_eq_getElem?_getD, List.getElem?_map, List.getElem?_eq_getElem hj]
  rfl
theorem BxRow.must {w : World} {p : Option Addr} {n cap : Nat} {l : List BxI} (h : BxRow w (.slice p n cap) l) {j : Nat} (hj : j < l.length) : ∃ g o, p = some ⟨g, o, none⟩ ∧ w.cell? ⟨g, o + j * 4 + 3, none⟩ = some (.bool (Wp.gB (l.map unB) j).m) := by
  obtain ⟨p', cap', e, _, h2⟩ := h
  obtain ⟨g, o, e2, _, h3⟩ := h2 (by intro q; subst q; simp at hj)
  obtain ⟨rfl, -, -⟩ := Value.slice.inj e
  refine ⟨g, o, e2, ?_⟩
  rw [gB_m hj]
  exact (h3 j hj).2.2.2
/-- What is best among the lines that go on from a box. -/
def foldA (r : Wp.Wr) (l : List Wp.Bx) (f : Nat) (es : List Int) (b : Int) (i j : Nat) : Int := (List.range' i (j - i)).foldl (fun b (j : Nat) => Wp.allM r l f (es ++ [(j : Int)]) (j + 1) b) b
theorem foldA_self (r : Wp.Wr) (l : List Wp.Bx) (f : Nat) (es : List Int) (b : Int) (i : Nat) : foldA r l f es b i i = b := by
  unfold foldA
  rw [Nat.sub_self]
  rfl
theorem foldA_succ (r : Wp.Wr) (l : List Wp.Bx) (f : Nat) (es : List Int) (b : Int) {i j : Nat} (h : i ≤ j) : foldA r l f es b i (j + 1) = Wp.allM r l f (es ++ [(j : Int)]) (j + 1) (foldA r l f es b i j) := by
  unfold foldA
  obtain ⟨k, rfl⟩ : ∃ k, j = i + k := ⟨j - i, by omega⟩
  rw [show i + k + 1 - i = k + 1 by omega, List.range'_concat, List.foldl_append, Nat.one_mul, show i + k - i = k by omega]
  rfl
set_option maxRecDepth 100000 in
set_option maxHeartbeats 4000000 in
theorem c_all (p : Option Addr) (cap : Nat) (l : List BxI) (W F R : Int) (hl : l.length ≤ 9) (hck : (chkK l W F R 1).1 = 0) : ∀ (f : Nat) (es : List Int) (i : Nat) (b : Int) (ve : Value) (w : World), BxRow w (.slice p l.length cap) l → IRow w ve es → (∀ m c, ve = .slice none m c → c = 0) → (∀ x ∈ es, -9223372036854775808 ≤ x ∧ x ≤ 9223372036854775807) → es.length ≤ i → l.length < f + i → i ≤ l.length →
    Calls Tryz.prog 20 #[.slice p l.length cap, .agg #[.int .i64 W, .int .i64 F, .int .i64 R, .int .i64 1], ve, .int .i64 (i : Nat), .int .i64 b] w fun e w' => e = .returned (.int .i64 (Wp.allM ⟨W, F, R⟩ (l.map unB) f es i b)) ∧ Ext w w'
  | 0, es, i, b, ve, w, h, he, hnl, hee, hel, hf, hi => by omega
  | f + 1, es, i, b, ve, w, h, he, hnl, hee, hel, hf, hi => by
    have hlb : (l.map unB).length = l.length := List.length_map ..
    obtain ⟨av, hav⟩ : ∃ av, Wp.allM ⟨W, F, R⟩ (l.map unB) (f + 1) es i b = av := ⟨_, rfl⟩
    rw [hav]
    rw [Wp.allM, hlb, ← cstA_ok hck] at hav
    have HB := Lib.hid h
    have HNL := Lib.hid hnl
    obtain ⟨_, _, _, _, hbrow⟩ := id h
    have HE := Lib.hid (And.intro he hee)
    obtain ⟨ep, ec, rfl, _, herow⟩ := id he
    have HER := Lib.hid herow
    have hlI : ((l.length : Nat) : Int) ≤ 9 := by omega
    have heI : ((es.length : Nat) : Int) ≤ 9 := by omega
    clear h he hee herow hnl
    by_cases hil : i = l.length
    · have hib : (((i : Nat) : Int) == (l.length : Nat)) = true := by simp [hil]
      rw [if_pos hil] at hav
      have HCS := Lib.hid (fun W' (h' : Ext w W') => c_CostA _ _ l es W F R 1 W' (HB.out.ext h') (HE.out.1.ext h') HE.out.2 (by omega) (by omega))
      generalize cstA l W F R 1 es = cs at HCS hav
      have HAV := Lib.hid hav
      clear hil hav
      go_enter Tryz.func20, Tryz.ntmps20
      go_wp2_with fail
      refine (HCS.out _ ((Ext.refl w).alloc _)).mono ?_
      rintro e w1 ⟨rfl, hx1⟩
      have HX1 := Lib.hid (((Ext.refl w).alloc _).trans hx1)
      clear hx1
      cases cs with
      | none =>
        simp only [Option.getD_none, Option.isSome_none]
        go_wp2_with fail
        exact ret_one rfl rfl rfl ⟨by rw [← HAV.out]; rfl, HX1.out⟩
      | some c =>
        simp only [Option.getD_some, Option.isSome_some]
        by_cases h1 : b < 0
        · have HV := Lib.hid (show av = c by rw [← HAV.out]; exact if_pos (.inl h1))
          go_wp2_with fail
          exact ret_one rfl rfl rfl ⟨by rw [HV.out]; rfl, HX1.out⟩
        · by_cases h2 : c < b
          · have HV := Lib.hid (show av = c by rw [← HAV.out]; exact if_pos (.inr h2))
            go_wp2_with fail
            exact ret_one rfl rfl rfl ⟨by rw [HV.out]; rfl, HX1.out⟩
          · have HV := Lib.hid (show av = b by rw [← HAV.out]; exact if_neg (by rintro (q | q); exact h1 q; exact h2 q))
            go_wp2_with fail
            exact ret_one rfl rfl rfl ⟨by rw [HV.out]; rfl, HX1.out⟩
    · have hib : (((i : Nat) : Int) == (l.length : Nat)) = false := by simp; omega
      rw [if_neg hil] at hav
      have hin : i < (l.map unB).length := by omega
      have hk1 := Wp.lst_ge (l.map unB) i
      have hk2 := Wp.lst_lt (l.map unB) hin
      have HMD := Lib.hid (fun j (h1 : i ≤ j) (h2 : j < Wp.lst (l.map unB) i) => Wp.lst_mid (l.map unB) h1 h2)
      have HEN := Lib.hid (Wp.lst_end (l.map unB) i)
      have hav2 : foldA ⟨W, F, R⟩ (l.map unB) f es b i (Wp.lst (l.map unB) i + 1) = av := hav
      generalize Wp.lst (l.map unB) i = k at hk1 hk2 HMD HEN hav2
      have HAV := Lib.hid hav2
      rw [hlb] at hk2 HMD HEN
      clear hav hav2 hlb hin
      go_enter Tryz.func20, Tryz.ntmps20
      go_wp2_with fail
      have hx0 := (Ext.refl w).alloc (.cells #[.int .i64 W, .int .i64 F, .int .i64 R, .int .i64 1] 24)
      have hbo := World.alloc_heap_new w (.cells #[.int .i64 W, .int .i64 F, .int .i64 R, .int .i64 1] 24)
      generalize w.alloc (.cells #[.int .i64 W, .int .i64 F, .int .i64 R, .int .i64 1] 24) = w0 at hx0 hbo ⊢
      generalize w.heap.size = tb at hbo ⊢
      have HX0 := Lib.hid hx0
      have HBO := Lib.hid hbo
      clear hx0 hbo
      go_loopw [4, 13] (fun bv jv V => ∃ (j : Nat) (c : Int), jv = .int .i64 (j : Nat) ∧ bv = .int .i64 c ∧ i ≤ j ∧ j ≤ k + 1 ∧ Hid (j = k + 1 → k + 1 = l.length) ∧ Hid (foldA ⟨W, F, R⟩ (l.map unB) f es b i j = c) ∧ Hid (Ext w0 V)) (fun _ jv _ => l.length + 1 - (intOf jv).toNat)
      case atStart => exact ⟨i, b, rfl, rfl, Nat.le_refl _, by omega, Lib.hid (fun q => by omega), Lib.hid (foldA_self ..), Lib.hid (Ext.refl _)⟩
      case round =>
        obtain ⟨j, c, rfl, rfl, hij, hjk1, HLK, HF, HX⟩ := hrel
        obtain ⟨V, rfl⟩ : ∃ V, V = wr := ⟨_, rfl⟩
        by_cases hjk2 : j = k + 1
        · have hI : ¬ ((j : Nat) : Int) < (l.length : Nat) := by have := HLK.out hjk2; omega
          have hd : decide (j < l.length) = false := decide_eq_false (by omega)
          have HVV := Lib.hid (show c = av by rw [← HAV.out, ← HF.out, hjk2])
          clear hjk2
          go_wp2_with fail
          exact ret_one rfl rfl rfl ⟨by rw [HVV.out]; rfl, HX0.out.trans HX.out⟩
        · have hjk : j ≤ k := by omega
          have hI : ((j : Nat) : Int) < (l.length : Nat) := by omega
          have hd : decide (j < l.length) = true := decide_eq_true (by omega)
          have m0 : V.cell? ⟨tb, 0, none⟩ = some (.int .i64 W) := HX.out.cell ((cell_blk HBO.out 0).trans rfl)
          have m1 : V.cell? ⟨tb, 1, none⟩ = some (.int .i64 F) := HX.out.cell ((cell_blk HBO.out 1).trans rfl)
          have m2 : V.cell? ⟨tb, 2, none⟩ = some (.int .i64 R) := HX.out.cell ((cell_blk HBO.out 2).trans rfl)
          have m3 : V.cell? ⟨tb, 3, none⟩ = some (.int .i64 1) := HX.out.cell ((cell_blk HBO.out 3).trans rfl)
          have HIH := Lib.hid (fun W' (h' : Ext w W') u (hu : IRow W' u (es ++ [((j : Nat) : Int)])) => by
            have key := c_all p cap l W F R hl hck f (es ++ [((j : Nat) : Int)]) (j + 1) c u W' (HB.out.ext h') hu (fun m c e => by
            obtain ⟨p', c', e', _, hh⟩ := hu
            obtain ⟨b', o', e2, _⟩ := hh (by simp)
            rw [e', e2] at e
            cases e) (by
            intro x hx
            rcases List.mem_append.1 hx with hx | hx
            · exact HE.out.2 x hx
            · simp at hx; omega) (by rw [List.length_append]; simp; omega) (by omega) (by omega)
            rw [show (((j + 1 : Nat)) : Int) = ((j : Nat) : Int) + 1 from rfl] at key
            exact key)
          obtain ⟨Z, hZ⟩ : ∃ Z, V.heap.size = Z := ⟨_, rfl⟩
          have HZ := Lib.hid hZ
          have hzt : tb < Z := by rw [← hZ]; exact blk_lt (HX.out.blk HBO.out)
          have s0 : ∀ w', EOn (fun a => a.block < Z) V w' → w'.cell? ⟨tb, 0, none⟩ = some (.int .i64 W) := fun w' h => h.cell hzt m0
          have s1 : ∀ w', EOn (fun a => a.block < Z) V w' → w'.cell? ⟨tb, 1, none⟩ = some (.int .i64 F) := fun w' h => h.cell hzt m1
          have s2 : ∀ w', EOn (fun a => a.block < Z) V w' → w'.cell? ⟨tb, 2, none⟩ = some (.int .i64 R) := fun w' h => h.cell hzt m2
          have s3 : ∀ w', EOn (fun a => a.block < Z) V w' → w'.cell? ⟨tb, 3, none⟩ = some (.int .i64 1) := fun w' h => h.cell hzt m3
          clear m0 m1 m2 m3 hZ hzt
          go_wp2_with fail
          refine wp_three (fun a => a.block < Z) [0, 1, 3, 5, 8, 9, 10] 2 6 4 [6, 7, 11, 12] [4, 7, 11, 12] [2, 4, 7, 11, 12] [false, false, false, true] [false, false, false, true] [false, false, false, false, true] (by kernel_rfl) (by kernel_rfl) (by simp only [List.map_cons, List.map_nil, nth]; rfl) (by simp only [List.map_cons, List.map_nil, nth]; rfl) (by simp only [List.map_cons, List.map_nil, nth]; rfl) (by simp only [List.map_cons, List.map_nil, nth]; rfl) (by simp only [nth]; rfl) (by simp only [nth]; rfl) (by simp only [nth]; rfl) ?_
          repeat first
            | refine wpT_move' ?_
            | refine wpT_val' ?_
          refine wpT_end ⟨stepF_do (by rfl) (fun w4 hx4 K hK => ?_), stepF_do (by rfl) (fun w4 hx4 K hK => ?_)⟩
          · clear s0 s1 s2 s3
            go_wp2_with fail
            have hxa := (Ext.refl w4).alloc (.cells #[] 3)
            have hoe := own_empty (W := w4) (B := Z) (by rw [← HZ.out]; exact (hx4).sz)
            generalize w4.alloc (.cells #[] 3) = w5 at hxa hoe ⊢
            obtain ⟨nb, hnb⟩ : ∃ nb, w4.heap.size = nb := ⟨_, rfl⟩
            rw [hnb] at hoe ⊢
            have HNN := Lib.hid hnb
            clear hnb
            have HOE := Lib.hid hoe
            have HXB := Lib.hid ((hx4).trans hxa)
            have HX68 := Lib.hid hxa
            refine ⟨EOn.of_ext hxa, ?_⟩
            clear hxa hoe
            refine ⟨stepF_do (by rfl) (fun w6 hx6 K hK => ?_), stepF_do (by rfl) (fun w6 hx6 K hK => ?_)⟩
            · have HOE6 := Lib.hid (ownsRow_ext HOE.out hx6)
              have HX6 := Lib.hid (HXB.out.trans hx6)
              clear hx6
              refine ap_ints rfl (fun a w h => by cases h.1) (.tmp 46) (.tmp 47) rfl (B := Z) (n := 0) (xs := []) rfl (HOE6.out) (by rw [← HZ.out]; exact (HX6.out).sz) (.slice ep es.length ec) es rfl (HE.out.1.ext (HX0.out.trans (HX.out.trans (HX6.out)))) HNL.out (by omega) (fun v4 w7 g1 g2 => hK _ _ ⟨EOn.of_grown g2 (fun ad h1 _ e => by
                have h2 := ((HOE6.out).lt _ e.symm).1
                have h3 : ad.block < Z := h1
                omega), ?_⟩)
              have HX7 := Lib.hid (show Ext V w7 from Below.grown (HX6.out) g2 (HX6.out).sz (fun k e => by rw [HZ.out]; exact ((HOE6.out).lt k e).1))
              have HG7 := Lib.hid g2
              rw [Nat.zero_add, List.nil_append] at g1
              obtain ⟨p4, c4, rfl⟩ := own_slice g1
              have HO7 := Lib.hid g1
              clear g1 g2 hK
              refine wpG_do (by rfl) (fun w8 hx8 K hK => ?_)
              go_wp2_with fail
              have hxj := (Ext.refl w8).alloc (.cells #[.int .i64 (j : Nat)] 3)
              have hoj := IRow.one (W := w8) (o := .cells #[.int .i64 (j : Nat)] 3) rfl
              generalize w8.alloc (.cells #[.int .i64 (j : Nat)] 3) = w9 at hxj hoj ⊢
              obtain ⟨jb, hjb⟩ : ∃ jb, w8.heap.size = jb := ⟨_, rfl⟩
              rw [hjb] at hoj ⊢
              have HJN := Lib.hid hjb
              clear hjb
              have HOJ := Lib.hid hoj
              have HXB := Lib.hid ((HX7.out.trans hx8).trans hxj)
              have HXJ := Lib.hid hxj
              refine ⟨EOn.of_ext hxj, ?_⟩
              clear hxj hoj
              have HO9 := Lib.hid (ownsRow_ext HO7.out (hx8.trans HXJ.out))
              clear hx8
              refine wpG_do (by rfl) (fun w10 hx10 K hK => ?_)
              have HX10 := Lib.hid ((HXB.out).trans hx10)
              have HJ10 := Lib.hid ((HOJ.out).ext hx10)
              have HO10 := Lib.hid (ownsRow_ext (HO9.out) hx10)
              clear hx10
              refine ap_ints rfl (fun a w h => by cases h.1) (.tmp 48) (.tmp 50) rfl (B := Z) (v := .slice p4 es.length c4) (n := es.length) (xs := iW es) rfl HO10.out (by rw [← HZ.out]; exact HX10.out.sz) (.slice (some ⟨jb, 0, none⟩) 1 1) [(j : Nat)] rfl HJ10.out (fun m c e => by cases e) (by simp; omega) (fun v7 w11 g1 g2 => hK _ _ ⟨EOn.of_grown g2 (fun ad h1 _ e => by
                have h2 := (HO10.out.lt _ e.symm).1
                have h3 : ad.block < Z := h1
                omega), ?_⟩)
              have HX11 := Lib.hid (show Ext V w11 from Below.grown HX10.out g2 HX10.out.sz (fun k e => by rw [HZ.out]; exact (HO10.out.lt k e).1))
              have HR11 := Lib.hid (show IRow w11 v7 (es ++ [((j : Nat) : Int)]) by
                refine IRow.of_own (B := Z) ?_
                rw [List.length_append]
                have e : iW (es ++ [((j : Nat) : Int)]) = iW es ++ iW [((j : Nat) : Int)] := by simp [iW]
                rw [e]
                exact g1)
              clear g1 g2 hK
              obtain ⟨p7, c7, e7, _, _⟩ := id HR11.out
              rw [List.length_append, List.length_singleton] at e7
              subst e7
              refine wpG_do (by rfl) (fun w12 hx12 K hK => ?_)
              have HR12 := Lib.hid (HR11.out.ext hx12)
              have HX12 := Lib.hid (HX11.out.trans hx12)
              clear hx12
              go_wp2_with fail
              refine (HIH.out w12 (HX0.out.trans (HX.out.trans HX12.out)) _ HR12.out).mono ?_
              rintro e w13 ⟨rfl, hx13⟩
              refine hK _ _ ⟨EOn.of_ext hx13, ?_⟩
              have HX13 := Lib.hid (HX12.out.trans hx13)
              clear hK hx13
              refine wpG_assign' ?_
              refine wpG_end (fun w14 hx14 => ?_)
              have HX14 := Lib.hid (HX.out.trans (HX13.out.trans hx14))
              clear hx14
              go_wp2_with fail
              refine gQ_normal ?_
              obtain ⟨gp, oo, rfl, d3⟩ := (HB.out.ext (HX0.out.trans HX14.out)).must (j := j) (by omega)
              by_cases hlt : j < k
              · have h2 := HMD.out j hij hlt
                rw [h2.2] at d3
                clear h2
                go_wp2_with fail
                exact ⟨⟨j + 1, _, by simp, rfl, by omega, by omega, Lib.hid (fun q => by omega), Lib.hid (foldA_succ _ _ _ _ _ hij |>.trans (by rw [HF.out])), HX14⟩, by simp only [intOf]; omega⟩
              · obtain rfl : j = k := by omega
                have HVV := Lib.hid (show Wp.allM ⟨W, F, R⟩ (l.map unB) f (es ++ [((j : Nat) : Int)]) (j + 1) c = av by rw [← HAV.out, foldA_succ _ _ _ _ _ hij, HF.out])
                cases hmm : (Wp.gB (l.map unB) j).m
                · have HL1 := Lib.hid (show j + 1 = l.length by
                    apply Decidable.byContradiction
                    intro q
                    exact HEN.out ⟨by omega, hmm⟩)
                  rw [hmm] at d3
                  clear hmm
                  go_wp2_with fail
                  exact ⟨⟨j + 1, _, by simp, rfl, by omega, by omega, Lib.hid (fun _ => HL1.out), Lib.hid (foldA_succ _ _ _ _ _ hij |>.trans (by rw [HF.out])), HX14⟩, by simp only [intOf]; omega⟩
                · rw [hmm] at d3
                  clear hmm
                  go_wp2_with fail
                  exact ret_one rfl rfl rfl ⟨by rw [← HVV.out]; rfl, HX0.out.trans HX14.out⟩
            · go_wp2_with fail
              have hxj := (Ext.refl w6).alloc (.cells #[.int .i64 (j : Nat)] 3)
              have hoj := IRow.one (W := w6) (o := .cells #[.int .i64 (j : Nat)] 3) rfl
              generalize w6.alloc (.cells #[.int .i64 (j : Nat)] 3) = w8 at hxj hoj ⊢
              obtain ⟨jb, hjb⟩ : ∃ jb, w6.heap.size = jb := ⟨_, rfl⟩
              rw [hjb] at hoj ⊢
              have HJN := Lib.hid hjb
              clear hjb
              have HOJ := Lib.hid hoj
              have HXB := Lib.hid ((HXB.out.trans hx6).trans hxj)
              have HXJ := Lib.hid hxj
              refine ⟨EOn.of_ext hxj, ?_⟩
              clear hxj hoj
              have HNE := Lib.hid (show nb < jb by have h1 := (HOE.out.lt nb rfl).2; have h2 := hx6.sz; have h3 := HJN.out; omega)
              have HOE8 := Lib.hid (ownsRow_ext HOE.out (hx6.trans HXJ.out))
              clear hx6
              refine wpG_do (by rfl) (fun w9 hx9 K hK => ?_)
              have HOE9 := Lib.hid (ownsRow_ext HOE8.out hx9)
              have HX9 := Lib.hid (HXB.out.trans hx9)
              have HOJ9 := Lib.hid (HOJ.out.ext hx9)
              clear hx9
              refine ap_ints rfl (fun a w h => by cases h.1) (.tmp 46) (.tmp 47) rfl (B := Z) (n := 0) (xs := []) rfl (HOE9.out) (by rw [← HZ.out]; exact (HX9.out).sz) (.slice ep es.length ec) es rfl (HE.out.1.ext (HX0.out.trans (HX.out.trans (HX9.out)))) HNL.out (by omega) (fun v4 w7 g1 g2 => hK _ _ ⟨EOn.of_grown g2 (fun ad h1 _ e => by
                have h2 := ((HOE9.out).lt _ e.symm).1
                have h3 : ad.block < Z := h1
                omega), ?_⟩)
              have HX7 := Lib.hid (show Ext V w7 from Below.grown (HX9.out) g2 (HX9.out).sz (fun k e => by rw [HZ.out]; exact ((HOE9.out).lt k e).1))
              have HG7 := Lib.hid g2
              rw [Nat.zero_add, List.nil_append] at g1
              obtain ⟨p4, c4, rfl⟩ := own_slice g1
              have HO7 := Lib.hid g1
              clear g1 g2 hK
              have HOJ7 := Lib.hid (HOJ9.out.kept HG7.out (fun b e e2 => by have h1 := HNE.out; have h3 : jb = b := Option.some.inj e; have h4 : b = nb := Option.some.inj e2; omega))
              refine wpG_do (by rfl) (fun w10 hx10 K hK => ?_)
              have HX10 := Lib.hid ((HX7.out).trans hx10)
              have HJ10 := Lib.hid ((HOJ7.out).ext hx10)
              have HO10 := Lib.hid (ownsRow_ext (HO7.out) hx10)
              clear hx10
              refine ap_ints rfl (fun a w h => by cases h.1) (.tmp 48) (.tmp 50) rfl (B := Z) (v := .slice p4 es.length c4) (n := es.length) (xs := iW es) rfl HO10.out (by rw [← HZ.out]; exact HX10.out.sz) (.slice (some ⟨jb, 0, none⟩) 1 1) [(j : Nat)] rfl HJ10.out (fun m c e => by cases e) (by simp; omega) (fun v7 w11 g1 g2 => hK _ _ ⟨EOn.of_grown g2 (fun ad h1 _ e => by
                have h2 := (HO10.out.lt _ e.symm).1
                have h3 : ad.block < Z := h1
                omega), ?_⟩)
              have HX11 := Lib.hid (show Ext V w11 from Below.grown HX10.out g2 HX10.out.sz (fun k e => by rw [HZ.out]; exact (HO10.out.lt k e).1))
              have HR11 := Lib.hid (show IRow w11 v7 (es ++ [((j : Nat) : Int)]) by
                refine IRow.of_own (B := Z) ?_
                rw [List.length_append]
                have e : iW (es ++ [((j : Nat) : Int)]) = iW es ++ iW [((j : Nat) : Int)] := by simp [iW]
                rw [e]
                exact g1)
              clear g1 g2 hK
              obtain ⟨p7, c7, e7, _, _⟩ := id HR11.out
              rw [List.length_append, List.length_singleton] at e7
              subst e7
              refine wpG_do (by rfl) (fun w12 hx12 K hK => ?_)
              have HR12 := Lib.hid (HR11.out.ext hx12)
              have HX12 := Lib.hid (HX11.out.trans hx12)
              clear hx12
              go_wp2_with fail
              refine (HIH.out w12 (HX0.out.trans (HX.out.trans HX12.out)) _ HR12.out).mono ?_
              rintro e w13 ⟨rfl, hx13⟩
              refine hK _ _ ⟨EOn.of_ext hx13, ?_⟩
              have HX13 := Lib.hid (HX12.out.trans hx13)
              clear hK hx13
              refine wpG_assign' ?_
              refine wpG_end (fun w14 hx14 => ?_)
              have HX14 := Lib.hid (HX.out.trans (HX13.out.trans hx14))
              clear hx14
              go_wp2_with fail
              refine gQ_normal ?_
              obtain ⟨gp, oo, rfl, d3⟩ := (HB.out.ext (HX0.out.trans HX14.out)).must (j := j) (by omega)
              by_cases hlt : j < k
              · have h2 := HMD.out j hij hlt
                rw [h2.2] at d3
                clear h2
                go_wp2_with fail
                exact ⟨⟨j + 1, _, by simp, rfl, by omega, by omega, Lib.hid (fun q => by omega), Lib.hid (foldA_succ _ _ _ _ _ hij |>.trans (by rw [HF.out])), HX14⟩, by simp only [intOf]; omega⟩
              · obtain rfl : j = k := by omega
                have HVV := Lib.hid (show Wp.allM ⟨W, F, R⟩ (l.map unB) f (es ++ [((j : Nat) : Int)]) (j + 1) c = av by rw [← HAV.out, foldA_succ _ _ _ _ _ hij, HF.out])
                cases hmm : (Wp.gB (l.map unB) j).m
                · have HL1 := Lib.hid (show j + 1 = l.length by
                    apply Decidable.byContradiction
                    intro q
                    exact HEN.out ⟨by omega, hmm⟩)
                  rw [hmm] at d3
                  clear hmm
                  go_wp2_with fail
                  exact ⟨⟨j + 1, _, by simp, rfl, by omega, by omega, Lib.hid (fun _ => HL1.out), Lib.hid (foldA_succ _ _ _ _ _ hij |>.trans (by rw [HF.out])), HX14⟩, by simp only [intOf]; omega⟩
                · rw [hmm] at d3
                  clear hmm
                  go_wp2_with fail
                  exact ret_one rfl rfl rfl ⟨by rw [← HVV.out]; rfl, HX0.out.trans HX14.out⟩
          · clear s0 s1 s2 s3
            go_wp2_with fail
            have hxj := (Ext.refl w4).alloc (.cells #[.int .i64 (j : Nat)] 3)
            have hoj := IRow.one (W := w4) (o := .cells #[.int .i64 (j : Nat)] 3) rfl
            generalize w4.alloc (.cells #[.int .i64 (j : Nat)] 3) = w5 at hxj hoj ⊢
            obtain ⟨jb, hjb⟩ : ∃ jb, w4.heap.size = jb := ⟨_, rfl⟩
            rw [hjb] at hoj ⊢
            have HJN := Lib.hid hjb
            clear hjb
            have HOJ := Lib.hid hoj
            have HXB := Lib.hid ((hx4).trans hxj)
            have HXJ := Lib.hid hxj
            refine ⟨EOn.of_ext hxj, ?_⟩
            clear hxj hoj
            clear hx4
            refine wpG_do (by rfl) (fun w6 hx6 K hK => ?_)
            have HXJ6 := Lib.hid (HXB.out.trans hx6)
            have HOJ6 := Lib.hid (HOJ.out.ext hx6)
            have HJL := Lib.hid (show jb < w6.heap.size by obtain ⟨_, _, _, _, h⟩ := HOJ6.out; obtain ⟨b, o, e, h2, _⟩ := h (by simp); obtain ⟨rfl, _⟩ := Addr.mk.inj (Option.some.inj ((Value.slice.inj ‹_›).1.trans e)); exact h2)
            clear hx6
            go_wp2_with fail
            have hxa := (Ext.refl w6).alloc (.cells #[] 3)
            have hoe := own_empty (W := w6) (B := Z) (by rw [← HZ.out]; exact (HXJ6.out).sz)
            generalize w6.alloc (.cells #[] 3) = w8 at hxa hoe ⊢
            obtain ⟨nb, hnb⟩ : ∃ nb, w6.heap.size = nb := ⟨_, rfl⟩
            rw [hnb] at hoe ⊢
            have HNN := Lib.hid hnb
            clear hnb
            have HOE := Lib.hid hoe
            have HXB := Lib.hid ((HXJ6.out).trans hxa)
            have HX68 := Lib.hid hxa
            refine ⟨EOn.of_ext hxa, ?_⟩
            clear hxa hoe
            have HNE := Lib.hid (show jb < nb by have h1 := HJL.out; have h3 := HNN.out; omega)
            refine wpG_do (by rfl) (fun w9 hx9 K hK => ?_)
            have HOE9 := Lib.hid (ownsRow_ext HOE.out hx9)
            have HX9 := Lib.hid (HXB.out.trans hx9)
            have HOJ9 := Lib.hid (HOJ6.out.ext (HX68.out.trans hx9))
            clear hx9
            refine ap_ints rfl (fun a w h => by cases h.1) (.tmp 46) (.tmp 47) rfl (B := Z) (n := 0) (xs := []) rfl (HOE9.out) (by rw [← HZ.out]; exact (HX9.out).sz) (.slice ep es.length ec) es rfl (HE.out.1.ext (HX0.out.trans (HX.out.trans (HX9.out)))) HNL.out (by omega) (fun v4 w7 g1 g2 => hK _ _ ⟨EOn.of_grown g2 (fun ad h1 _ e => by
              have h2 := ((HOE9.out).lt _ e.symm).1
              have h3 : ad.block < Z := h1
              omega), ?_⟩)
            have HX7 := Lib.hid (show Ext V w7 from Below.grown (HX9.out) g2 (HX9.out).sz (fun k e => by rw [HZ.out]; exact ((HOE9.out).lt k e).1))
            have HG7 := Lib.hid g2
            rw [Nat.zero_add, List.nil_append] at g1
            obtain ⟨p4, c4, rfl⟩ := own_slice g1
            have HO7 := Lib.hid g1
            clear g1 g2 hK
            have HOJ7 := Lib.hid (HOJ9.out.kept HG7.out (fun b e e2 => by have h1 := HNE.out; have h3 : jb = b := Option.some.inj e; have h4 : b = nb := Option.some.inj e2; omega))
            refine wpG_do (by rfl) (fun w10 hx10 K hK => ?_)
            have HX10 := Lib.hid ((HX7.out).trans hx10)
            have HJ10 := Lib.hid ((HOJ7.out).ext hx10)
            have HO10 := Lib.hid (ownsRow_ext (HO7.out) hx10)
            clear hx10
            refine ap_ints rfl (fun a w h => by cases h.1) (.tmp 48) (.tmp 50) rfl (B := Z) (v := .slice p4 es.length c4) (n := es.length) (xs := iW es) rfl HO10.out (by rw [← HZ.out]; exact HX10.out.sz) (.slice (some ⟨jb, 0, none⟩) 1 1) [(j : Nat)] rfl HJ10.out (fun m c e => by cases e) (by simp; omega) (fun v7 w11 g1 g2 => hK _ _ ⟨EOn.of_grown g2 (fun ad h1 _ e => by
              have h2 := (HO10.out.lt _ e.symm).1
              have h3 : ad.block < Z := h1
              omega), ?_⟩)
            have HX11 := Lib.hid (show Ext V w11 from Below.grown HX10.out g2 HX10.out.sz (fun k e => by rw [HZ.out]; exact (HO10.out.lt k e).1))
            have HR11 := Lib.hid (show IRow w11 v7 (es ++ [((j : Nat) : Int)]) by
              refine IRow.of_own (B := Z) ?_
              rw [List.length_append]
              have e : iW (es ++ [((j : Nat) : Int)]) = iW es ++ iW [((j : Nat) : Int)] := by simp [iW]
              rw [e]
              exact g1)
            clear g1 g2 hK
            obtain ⟨p7, c7, e7, _, _⟩ := id HR11.out
            rw [List.length_append, List.length_singleton] at e7
            subst e7
            refine wpG_do (by rfl) (fun w12 hx12 K hK => ?_)
            have HR12 := Lib.hid (HR11.out.ext hx12)
            have HX12 := Lib.hid (HX11.out.trans hx12)
            clear hx12
            go_wp2_with fail
            refine (HIH.out w12 (HX0.out.trans (HX.out.trans HX12.out)) _ HR12.out).mono ?_
            rintro e w13 ⟨rfl, hx13⟩
            refine hK _ _ ⟨EOn.of_ext hx13, ?_⟩
            have HX13 := Lib.hid (HX12.out.trans hx13)
            clear hK hx13
            refine wpG_assign' ?_
            refine wpG_end (fun w14 hx14 => ?_)
            have HX14 := Lib.hid (HX.out.trans (HX13.out.trans hx14))
            clear hx14
            go_wp2_with fail
            refine gQ_normal ?_
            obtain ⟨gp, oo, rfl, d3⟩ := (HB.out.ext (HX0.out.trans HX14.out)).must (j := j) (by omega)
            by_cases hlt : j < k
            · have h2 := HMD.out j hij hlt
              rw [h2.2] at d3
              clear h2
              go_wp2_with fail
              exact ⟨⟨j + 1, _, by simp, rfl, by omega, by omega, Lib.hid (fun q => by omega), Lib.hid (foldA_succ _ _ _ _ _ hij |>.trans (by rw [HF.out])), HX14⟩, by simp only [intOf]; omega⟩
            · obtain rfl : j = k := by omega
              have HVV := Lib.hid (show Wp.allM ⟨W, F, R⟩ (l.map unB) f (es ++ [((j : Nat) : Int)]) (j + 1) c = av by rw [← HAV.out, foldA_succ _ _ _ _ _ hij, HF.out])
              cases hmm : (Wp.gB (l.map unB) j).m
              · have HL1 := Lib.hid (show j + 1 = l.length by
                  apply Decidable.byContradiction
                  intro q
                  exact HEN.out ⟨by omega, hmm⟩)
                rw [hmm] at d3
                clear hmm
                go_wp2_with fail
                exact ⟨⟨j + 1, _, by simp, rfl, by omega, by omega, Lib.hid (fun _ => HL1.out), Lib.hid (foldA_succ _ _ _ _ _ hij |>.trans (by rw [HF.out])), HX14⟩, by simp only [intOf]; omega⟩
              · rw [hmm] at d3
                clear hmm
                go_wp2_with fail
                exact ret_one rfl rfl rfl ⟨by rw [← HVV.out]; rfl, HX0.out.trans HX14.out⟩
set_option maxRecDepth 100000 in
set_option maxHeartbeats 4000000 in
theorem c_All (v : Value) (l : List BxI) (W F R H : Int) (w : World) (hT : TabsW w) (h : BxRow w v l) :
    Calls Tryz.prog 7 #[v, .agg #[.int .i64 W, .int .i64 F, .int .i64 R, .int .i64 H]] w fun e w' => e = .returned (.bool true) ∧ Ext w w' := by
  have HL := Lib.hid (fun W' (h' : Ext w W') => c_live16 W' (hT.ext h'))
  have HB := Lib.hid h
  obtain ⟨p, cap, rfl, _, _⟩ := id h
  clear hT h
  by_cases hb1 : (9 : Int) < (l.length : Nat)
  · go_enter Tryz.func7, Tryz.ntmps7
    go_wp2_with fail
    refine (HL.out _ ((Ext.refl w).alloc _)).mono ?_
    rintro e wl ⟨rfl, hxl⟩
    have HXL := Lib.hid (((Ext.refl w).alloc _).trans hxl)
    clear hxl
    go_wp2_with fail
    exact ret_one rfl rfl rfl ⟨rfl, HXL.out⟩
  · have HLE := Lib.hid (fun W' (h' : Ext w W') => c_LinesA _ l W F R 1 W' (HB.out.ext h') (by omega))
    have HCE := Lib.hid (fun pa ca B W' (h' : Ext w W') ha => c_CostL p cap l pa ca B (linA l W F R 1) W F R 1 W' (HB.out.ext h') ha linA_lt (linA_len l W F R 1) (by omega))
    have HF := Lib.hid (fun q => allA (l := l) (W := W) (F := F) (R := R) q)
    have HAL := Lib.hid (fun (q : (chkK l W F R 1).1 = 0) W' (h' : Ext w W') => c_all p cap l W F R (by omega) q (l.length + 1) [] 0 (-1) (.slice none 0 0) W' (HB.out.ext h') ⟨none, 0, rfl, Nat.le_refl _, fun h => absurd rfl h⟩ (fun m c e => ((Value.slice.inj e).2.2).symm) (fun x hx => by cases hx) (Nat.zero_le _) (by omega) (Nat.zero_le _))
    have hle := linA_len l W F R 1
    generalize linA l W F R 1 = la at HLE HCE HF hle
    generalize (chkK l W F R 1).1 = c1 at HLE HF HAL
    go_enter Tryz.func7, Tryz.ntmps7
    go_wp2_with fail
    have hb := World.alloc_heap_new w (.cells #[.int .i64 W, .int .i64 F, .int .i64 R, .int .i64 1] 24)
    have hx := (Ext.refl w).alloc (.cells #[.int .i64 W, .int .i64 F, .int .i64 R, .int .i64 1] 24)
    generalize w.alloc (.cells #[.int .i64 W, .int .i64 F, .int .i64 R, .int .i64 1] 24) = w1 at hb hx ⊢
    obtain ⟨tb, htb⟩ : ∃ tb, w.heap.size = tb := ⟨_, rfl⟩
    rw [htb] at hb ⊢
    have HTN := Lib.hid htb
    clear htb
    have HX1 := Lib.hid hx
    have HTB := Lib.hid hb
    clear hb hx
    refine (HLE.out w1 HX1.out).mono ?_
    rintro e w2 ⟨u, rfl, hown, hx2⟩
    obtain ⟨pu, cu, rfl⟩ := own_slice hown
    have HX2 := Lib.hid hx2
    have HOA := Lib.hid hown
    clear hown hx2
    go_wp2_with fail
    refine (c_num16 c1 w2).mono ?_
    rintro e w2 ⟨rfl, rfl⟩
    by_cases h0 : c1 = 0
    · subst h0
      have f1 := HF.out (by simp)
      have hal := HAL.out (by simp)
      have hcb := congrArg (fun x => x.getD 0) f1
      have hcs := congrArg Option.isSome f1
      simp only [Option.getD_some, Option.isSome_some] at hcb hcs
      rw [hcb, hcs] at HCE
      generalize Wp.allM ⟨W, F, R⟩ (l.map unB) (l.length + 1) [] 0 (-1) = av at HCE hal
      have HAL2 := Lib.hid hal
      clear HF HAL f1 hcb hcs hal
      have m0 : w2.cell? ⟨tb, 0, none⟩ = some (.int .i64 W) := (cell_blk (HX2.out.blk HTB.out) 0).trans rfl
      have m1 : w2.cell? ⟨tb, 1, none⟩ = some (.int .i64 F) := (cell_blk (HX2.out.blk HTB.out) 1).trans rfl
      have m2 : w2.cell? ⟨tb, 2, none⟩ = some (.int .i64 R) := (cell_blk (HX2.out.blk HTB.out) 2).trans rfl
      have m3 : w2.cell? ⟨tb, 3, none⟩ = some (.int .i64 1) := (cell_blk (HX2.out.blk HTB.out) 3).trans rfl
      go_wp2_with fail
      refine (HCE.out pu cu _ w2 (HX1.out.trans HX2.out) HOA.out).mono ?_
      rintro e w3 ⟨rfl, hx3⟩
      have HX3 := Lib.hid (HX2.out.trans hx3)
      clear m0 m1 m2 m3 hx3
      have m0 : w3.cell? ⟨tb, 0, none⟩ = some (.int .i64 W) := (cell_blk (HX3.out.blk HTB.out) 0).trans rfl
      have m1 : w3.cell? ⟨tb, 1, none⟩ = some (.int .i64 F) := (cell_blk (HX3.out.blk HTB.out) 1).trans rfl
      have m2 : w3.cell? ⟨tb, 2, none⟩ = some (.int .i64 R) := (cell_blk (HX3.out.blk HTB.out) 2).trans rfl
      have m3 : w3.cell? ⟨tb, 3, none⟩ = some (.int .i64 1) := (cell_blk (HX3.out.blk HTB.out) 3).trans rfl
      go_wp2_with fail
      refine (HAL2.out w3 (HX1.out.trans HX3.out)).mono ?_
      rintro e w4 ⟨rfl, hx4⟩
      have HX4 := Lib.hid (HX1.out.trans (HX3.out.trans hx4))
      clear m0 m1 m2 m3 hx4
      go_wp2_with fail
      refine (HL.out _ (HX4.out)).mono ?_
      rintro e wl ⟨rfl, hxl⟩
      have HXL := Lib.hid ((HX4.out).trans hxl)
      clear hxl
      go_wp2_with fail
      exact ret_one rfl rfl rfl ⟨rfl, HXL.out⟩
    · have hb : (c1 != 0) = true := bne_iff_ne.2 h0
      clear HF HAL h0
      go_wp2_with fail
      refine (HL.out _ (HX1.out.trans HX2.out)).mono ?_
      rintro e wl ⟨rfl, hxl⟩
      have HXL := Lib.hid ((HX1.out.trans HX2.out).trans hxl)
      clear hxl
      go_wp2_with fail
      exact ret_one rfl rfl rfl ⟨rfl, HXL.out⟩
end Go.Proofs.YtlmkbldiicbejaaGreatDoor
