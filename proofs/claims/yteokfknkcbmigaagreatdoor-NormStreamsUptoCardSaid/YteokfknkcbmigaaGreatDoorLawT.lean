/-
 Every pieces in every form: what each Write tells, what is held: as the document has it.
-/
import Derived.Test.YteokfknkcbmigaaGreatDoorRefF
import Derived.Test.YteokfknkcbmigaaGreatDoorWholes
namespace Go.Proofs.YteokfknkcbmigaaGreatDoor
open Go.RowKit Go.Rp Go.Shelf Go.Maps Go.Nm

set_option maxRecDepth 100000 in
set_option maxHeartbeats 8000000 in
theorem c_Streams (f : Int) (v : Value) (l : List ByteArray) (w : World) (hT : Tabs w) (h : StrRow w v l) (hs : ∀ s ∈ l, s.size ≤ 140737488351232) : Calls Tryz.prog 5 #[.int .i64 f, v] w fun e w' => e = .returned (.bool true) ∧ Ext w w' := by
 by_cases hb : 100 < l.length ∨ 90 < total l
 ·have HL := Lib.hid (c_long v l true w h hs ⟨fun _ => hb, fun _ => rfl⟩)
  clear hb hs h
  go_enter Tryz.func5, Tryz.ntmps5
  go_wp2_with fail
  refine HL.out.mono ?_
  rintro e w1 ⟨rfl, hx1⟩
  have HX1 := Lib.hid hx1
  clear hx1
  go_wp2_with fail
  refine (c_live w1 (hT.ext HX1.out)).mono ?_
  rintro e w9 ⟨rfl, hx9⟩
  have HX9 := Lib.hid (HX1.out.trans hx9)
  clear hx9
  go_wp2_with fail
  go_ret
  exact ⟨rfl, HX9.out⟩
 ·have HL := Lib.hid (c_long v l false w h hs ⟨fun h => (by cases h), fun h => absurd h hb⟩)
  by_cases hf : 0 ≤ f ∧ f ≤ 3
  ·have HB := Lib.hid (show l.length ≤ 100 ∧ total l ≤ 90 from ⟨by omega, by omega⟩)
   have HN := Lib.hid (fun w2 hT2 => c_New f hf w2 hT2)
   have HNR := Lib.hid (fun w2 => c_RNew f hf w2)
   have HF := Lib.hid hf
   have HR := Lib.hid h
   obtain ⟨p, cap, rfl, _⟩ := h
   clear hb hf hs
   go_enter Tryz.func5, Tryz.ntmps5
   go_wp2_with fail
   refine HL.out.mono ?_
   rintro e w1 ⟨rfl, hx1⟩
   have HX1 := Lib.hid hx1
   clear hx1
   go_wp2_with fail
   refine (HN.out w1 (hT.ext HX1.out)).mono ?_
   rintro e w2 ⟨⟨A, Z⟩, nb, tB, xB, rfl, hst, hx2, hx12⟩
   have HXA := Lib.hid (HX1.out.trans (show Ext w1 A from hx12))
   have HS2 := Lib.hid hst
   clear hx2 hst hx12 HL HN
   go_wp2_with fail
   refine (HNR.out w2).mono ?_
   rintro e w3 ⟨tR, yB, rfl, hr3, hx3, hy3⟩
   have HT3 := Lib.hid (show Two A nb tB xB tR yB f [] 0 ⟨#[]⟩ 0 w3 from ⟨(HS2.out.more hx3).now, hr3, Nat.zero_le _, Nat.le_trans HS2.out.ext.sz hy3, by
    have := blk_lt HS2.out.blk
    omega⟩)
   clear hr3 hx3 hy3 HS2 HNR
   go_wp2_with fail
   refine (c_num 0 w3).mono ?_
   rintro e wn ⟨rfl, en⟩
   obtain rfl := en.symm
   clear en
   go_wp2_with fail
   refine (c_live w3 (hT.ext (HXA.out.trans HT3.out.x.ext))).mono ?_
   rintro e w4 ⟨rfl, hx4⟩
   have HT4 := Lib.hid (HT3.out.more hx4)
   clear hx4 HT3
   go_wp2_with fail
   go_loopw [9] (fun iv W => ∃ (k at' n : Nat) (T : List UInt8) (ws : ByteArray), iv = .int .i64 (k : Nat) ∧ k ≤ l.length ∧ Hid (T.length ≤ total (l.take k) ∧ Tie T at' ws.data.toList) ∧ Hid (Two A nb tB xB tR yB f T at' ws n W)) (fun iv _ => l.length + 1 - (intOf iv).toNat)
   case atStart => exact ⟨0, 0, 0, [], ⟨#[]⟩, rfl, by omega, Lib.hid ⟨by simp, Tie.nil⟩, HT4⟩
   case round =>
    clear HT4
    obtain ⟨k, at', n, T, ws, rfl, hk, HG, HS⟩ := hrel
    by_cases hlt : k < l.length
    ·have hd : decide (k < l.length) = true := decide_eq_true hlt
     have hI : ((k : Nat) : Int) < (l.length : Nat) := by omega
     obtain ⟨p', cap', hpc, hcells⟩ := HR.out.mono HXA.out
     obtain ⟨rfl, -, rfl⟩ := Value.slice.inj hpc
     obtain ⟨b', off, rfl, hb', hcell⟩ := hcells (by intro e; subst e; simp at hlt)
     have hckA : ∀ w', Ext A w' → w'.cell? ⟨b', off + k, none⟩ = some (.string l[k]) := fun w' hx => hx.cell (hcell k hlt)
     have HST := Lib.hid (And.intro (total_step l k hlt) hlt)
     clear hcell hcells hpc hb'
     generalize l[k] = s at hckA HST
     have HCK := Lib.hid hckA
     have hck := hckA wr HS.out.x.ext
     have hk1 : ((k : Nat) : Int) ≤ 100 := by have := HB.out.1; omega
     clear hckA
     have hcv := fun w => Lib.run_convert_string_bytes (P := Tryz.prog) w 9 38 5 s Tryz.underlying9 Tryz.underlying38 Tryz.underlying5
     have hTk := Lib.hid (show T.length + s.size ≤ 90 ∧ ws.size ≤ T.length by
      have h1 := HG.out.1
      have h2 := HST.out.1
      have h3 := total_take l (k + 1)
      have h4 := HB.out.2
      have h5 := HG.out.2.size
      rw [len_eq] at h5
      omega)
     by_cases hs0 : s.size = 0
     ·have hsI : ((s.size : Nat) : Int) = 0 := by omega
      go_wp2_with fail
      obtain ⟨hxb, -⟩ := bytes_of wr 5 s
      have HSb := Lib.hid (HS.out.more hxb)
      clear hxb
      generalize Lib.bytesWorld wr 5 s = wb at HSb ⊢
      have HC1 := Lib.hid (c_TwoXC A nb tB xB tR yB at' n f HF.out T ws (by have := hTk.out; omega) wb HSb.out)
      obtain ⟨z, hz⟩ : ∃ z : ByteArray, (⟨(formT f ws.data.toList).toArray⟩ : ByteArray) = z := ⟨_, rfl⟩
      rw [hz] at HC1
      have HZ := Lib.hid (show (⟨(formT f (T.drop at')).toArray⟩ : ByteArray) = z by rw [← hz, HG.out.2.1])
      have hzz : (z.toList == z.toList) = true := by simp
      clear hz HSb HS
      refine HC1.out.mono ?_
      rintro e w5 ⟨rfl, hs5, -⟩
      have HC2 := Lib.hid (c_TwoYC A nb tB xB tR yB at' n f T ⟨#[]⟩ w5 hs5 (by have := hTk.out; omega) HG.out.2.2.1)
      rw [HZ.out] at HC2
      clear hs5 HC1
      go_wp2_with fail
      refine HC2.out.mono ?_
      rintro e w6 ⟨rfl, hs6, -⟩
      obtain ⟨T0, k0, ws0, n6, HS6, HG6, HN6⟩ : ∃ (T0 : List UInt8) (k0 : Nat) (ws0 : ByteArray) (n6 : Nat), Hid (Two A nb tB xB tR yB f T0 k0 ws0 n6 w6) ∧ Hid (T0.length ≤ total (l.take (k + 1)) ∧ Tie T0 k0 ws0.data.toList) ∧ Hid (ws0.size + k0 = T0.length ∧ T0.length ≤ 90) := ⟨[], 0, ⟨#[]⟩, n, Lib.hid hs6, Lib.hid ⟨by simp, Tie.nil⟩, Lib.hid ⟨rfl, by decide⟩⟩
      clear hs6 HC2
      obtain ⟨pT, capT, hT2, hT3⟩ := HS6.out.text
      have hszT : ((T0.length : Nat) : Int) - (k0 : Nat) = ((ws0.size : Nat) : Int) := by
       have := HN6.out
       omega
      have hbT : ((T0.length : Nat) : Int) ≤ 90 := by
       have := HN6.out
       omega
      have hkT : ((k0 : Nat) : Int) ≤ (T0.length : Nat) := by
       have := HN6.out
       omega
      go_wp2_with fail
      have q2 : ∀ w', EOn (fun _ => True) w6 w' → w'.cell? ⟨yB, 2, none⟩ = some (.slice pT T0.length capT) := fun w' hx => hx.cell trivial hT2
      have q3 : ∀ w', EOn (fun _ => True) w6 w' → w'.cell? ⟨yB, 3, none⟩ = some (.int .i64 (k0 : Nat)) := fun w' hx => hx.cell trivial hT3
      clear hT2 hT3
      refine wp_perm (fun _ => True) [0, 2, 3, 4, 5, 6, 7, 8, 9, 10, 11, 1, 12] [true, true, true, true, true, true, true, true, true, true, true, false, true] (by kernel_rfl) (by kernel_rfl) (by simp only [List.map_cons, List.map_nil, nth]; rfl) ?_
      repeat first
       | refine wpG_move' ?_
       | refine wpG_assign' ?_
       | refine wpG_val' ?_
       | refine wpG_no' ?_
      refine wpG_do (by rfl) (fun wh hxh K hK => ?_)
      go_wp2_with fail
      refine (c_TwoH A nb tB xB tR yB k0 n6 f T0 ws0 wh (HS6.out.more hxh)).mono ?_
      rintro e wi ⟨rfl, rfl⟩
      refine hK _ _ ⟨EOn.refl _ _, ?_⟩
      clear hK
      repeat first
       | refine wpG_move' ?_
       | refine wpG_assign' ?_
       | refine wpG_val' ?_
       | refine wpG_no' ?_
      refine wpG_end (fun wj hxj => ?_)
      have HTJ := Lib.hid (HS6.out.more (hxh.trans hxj))
      clear hxh hxj q2 q3
      go_wp2_with fail
      refine gQ_normal ?_
      go_wp2_with fail
      exact ⟨⟨k + 1, k0, n6, T0, ws0, by simp, by have := HST.out.2; omega, HG6, HTJ⟩, by have := HST.out.2; simp only [intOf]; omega⟩
     ·have hsI : ¬ ((s.size : Nat) : Int) = 0 := by omega
      go_wp2_with fail
      obtain ⟨hxb, hcb⟩ := bytes_of wr 5 s
      have hub := u8_of wr s
      have hlx := HS.out.lx
      have HPB := Lib.hid (show wr.heap.size ≠ xB ∧ wr.heap.size ≠ yB ∧ A.heap.size ≤ wr.heap.size ∧ wr.heap.size < (Lib.bytesWorld wr 5 s).heap.size from ⟨by omega, by omega, HS.out.x.ext.sz, by rw [Lib.bytesWorld_size]; omega⟩)
      have HSb := Lib.hid (HS.out.more hxb)
      have HCB := Lib.hid (And.intro hcb hub)
      clear hxb hcb hub HS hlx
      generalize Lib.bytesWorld wr 5 s = wb at HSb HCB HPB ⊢
      generalize grownCap wr s.size 0 5 = pc
      generalize wr.heap.size = pb at HCB HPB ⊢
      obtain ⟨b, c, k', vs, z, hvs, hvl, hb, hkw, hc, hz1, hz2, hk', htie⟩ := both_tell (pl := s.data.toList) f HG.out.2 (by intro e; have := congrArg List.length e; rw [len_eq, List.length_nil] at this; omega)
      have HV := Lib.hid (And.intro hvs (And.intro hvl (And.intro hb (And.intro hkw hc))))
      have HZ := Lib.hid (And.intro hz1 (And.intro hz2 hk'))
      have HG6 := Lib.hid (show (T ++ s.data.toList).length ≤ total (l.take (k + 1)) ∧ Tie (T ++ s.data.toList) k' ((⟨(vs.data.toList.drop c).toArray⟩ : ByteArray)).data.toList from ⟨by
       rw [List.length_append, len_eq, HST.out.1]
       have := HG.out.1
       omega, htie⟩)
      have HW1 := Lib.hid (show ∀ w, Two A nb tB xB tR yB f T at' ws n w → (∀ j (h : j < s.data.toList.length), w.cell? ⟨pb, j, none⟩ = some (.int .u8 s.data.toList[j].toNat)) → Calls Tryz.prog 21 #[.pointer (some ⟨xB, 0, none⟩), .slice (some ⟨pb, 0, none⟩) s.size pc] w fun e w' => e = .returned (.string z) ∧ Two A nb tB xB tR yB f T at' ⟨(vs.data.toList.drop c).toArray⟩ n w' ∧ Kept xB w w' from fun w h1 h2 => by
       have h3 := hTk.out
       have := c_TwoX A nb tB xB tR yB at' n pb pc c f HF.out T ws vs s.data.toList w h1 h2 HV.out.1 (by have := HV.out.2.1; rw [len_eq] at this; omega) (by have := HV.out.2.1; rw [len_eq] at this; omega) HV.out.2.2.2.2
       rw [len_eq, HZ.out.1] at this
       exact this)
      have HW2 := Lib.hid (show ∀ w qb qc, Two A nb tB xB tR yB f T at' ⟨(vs.data.toList.drop c).toArray⟩ n w → (∀ j (h : j < s.data.toList.length), w.cell? ⟨qb, j, none⟩ = some (.int .u8 s.data.toList[j].toNat)) → Calls Tryz.prog 22 #[.pointer (some ⟨yB, 0, none⟩), .slice (some ⟨qb, 0, none⟩) s.size qc] w fun e w' => e = .returned (.string z) ∧ Two A nb tB xB tR yB f (T ++ s.data.toList) k' ⟨(vs.data.toList.drop c).toArray⟩ w.heap.size w' ∧ Kept yB w w' from fun w qb qc h1 h2 => by
       have h3 := hTk.out
       have := c_TwoY A nb tB xB tR yB at' n qb qc b f HF.out T _ s.data.toList w h1 h2 (by intro e; have := congrArg List.length e; rw [len_eq, List.length_nil] at this; omega) (by rw [len_eq]; omega) HV.out.2.2.1 HV.out.2.2.2.1
       rw [len_eq, HZ.out.2.1, HZ.out.2.2] at this
       exact this)
      have hzz : (z.toList == z.toList) = true := by simp
      have hss : (s.toList == s.toList) = true := by simp
      clear hvs hvl hb hkw hc hz1 hz2 hk' htie HV HZ HG
      generalize (⟨(vs.data.toList.drop c).toArray⟩ : ByteArray) = us at HG6 HW1 HW2
      have hq1 : ∀ w', EOn (fun a => a.block ≠ xB ∧ a.block ≠ yB) wb w' → w'.cell? ⟨b', off + k, none⟩ = some (.string s) := fun w' hx => hx.cell (by
       have h1 := World.block_lt_of_cell? _ _ (HCK.out A (Ext.refl A))
       have h2 : A.heap.size ≤ xB := HSb.out.x.le
       have h3 := HSb.out.ay
       constructor
       ·show b' ≠ xB
        have : b' < A.heap.size := h1
        omega
       ·show b' ≠ yB
        have : b' < A.heap.size := h1
        omega) (HCK.out wb HSb.out.x.ext)
      clear hck
      refine wp_two (fun a => a.block ≠ xB ∧ a.block ≠ yB) [0, 1, 3, 4, 5, 6, 7] 2 8 [8, 9, 10, 11, 12, 13, 14, 15, 16, 17, 18, 19] [2, 9, 10, 11, 12, 13, 14, 15, 16, 17, 18, 19] [false, false, true, true, true, true, true, true, true, true, true, true] [false, false, true, true, true, true, true, true, true, true, true, true] (by kernel_rfl) (by kernel_rfl) (by simp only [List.map_cons, List.map_nil, nth]; rfl) (by simp only [List.map_cons, List.map_nil, nth]; rfl) (by simp only [List.map_cons, List.map_nil, nth]; rfl) (by simp only [nth]; rfl) (by simp only [nth]; rfl) ?_
      repeat first
       | refine wpT_move' ?_
       | refine wpT_val' ?_
      refine wpT_end ⟨stepF_do (by rfl) (fun w4 hx4 K hK => ?_), stepF_do (by rfl) (fun w4 hx4 K hK => ?_)⟩
      ·clear hq1
       go_wp2_with fail
       refine (HW1.out w4 (HSb.out.more hx4) (fun j h => hx4.cell (HCB.out.1 j h))).mono ?_
       rintro e w5 ⟨rfl, hs5, hk5⟩
       refine hK _ _ ⟨EOn.of_kept hk5 (fun a ha => ha.1), ?_⟩
       clear hK
       refine wpG_do (by rfl) (fun w6 hx6 K hK => ?_)
       go_wp2_with fail
       obtain ⟨hxb, hcb⟩ := bytes_of w6 5 s
       refine ⟨EOn.of_ext hxb, ?_⟩
       generalize grownCap w6 s.size 0 5 = qc
       generalize Lib.bytesWorld w6 5 s = w7 at hxb hcb ⊢
       generalize w6.heap.size = qb at hcb ⊢
       have hx57 := hx6.trans hxb
       clear hx6 hxb
       refine wpG_do (by rfl) (fun w8 hx8 K hK => ?_)
       go_wp2_with fail
       refine (HW2.out w8 qb qc (hs5.more (hx57.trans hx8)) (fun j h => hx8.cell (hcb j h))).mono ?_
       rintro e w9 ⟨rfl, hs9, hk9⟩
       have hkb : ∀ {p : Addr} {v : Value}, p.block ≠ xB → p.block ≠ yB → wb.cell? p = some v → w9.cell? p = some v := fun {p} {v} h1 h2 h3 => hk9.cell h2 ((hx57.trans hx8).cell (hk5.cell h1 (hx4.cell h3)))
       have HU9 := Lib.hid ((((HCB.out.2.more hx4).kept hk5 HPB.out.1).more (hx57.trans hx8)).kept hk9 HPB.out.2.1)
       have HPN := Lib.hid (show pb < w8.heap.size from Nat.lt_of_lt_of_le HPB.out.2.2.2 (Nat.le_trans hx4.sz (Nat.le_trans hk5.1 (hx57.trans hx8).sz)))
       refine hK _ _ ⟨EOn.of_kept hk9 (fun a ha => ha.2), ?_⟩
       clear hK hs5 hk5 hk9 hx57 hx8 hcb hx4
       obtain ⟨hbx, hby⟩ : b' ≠ xB ∧ b' ≠ yB := by
        have h1 : b' < A.heap.size := World.block_lt_of_cell? _ _ (HCK.out A (Ext.refl A))
        have h2 : A.heap.size ≤ xB := HSb.out.x.le
        have h3 := HSb.out.ay
        exact ⟨by omega, by omega⟩
       have hcv2 : ∀ w', EOn (fun a => a.block ≠ xB ∧ a.block ≠ yB) w9 w' → (convert 38 9 (.slice (some ⟨pb, 0, none⟩) s.size pc)).run Tryz.prog w' = .ok (.string s) w' := fun w' hx => by
        have := run_convert_bytes_back (P := Tryz.prog) w' 38 9 5 ⟨pb, 0, none⟩ pc s.data.toList Tryz.underlying38 Tryz.underlying5 Tryz.underlying9 (fun j hj => by
         have hadd : (⟨pb, 0, none⟩ : Addr).add j = ⟨pb, j, none⟩ := by unfold Addr.add; split <;> simp_all
         rw [hadd]
         exact hx.cell ⟨HPB.out.1, HPB.out.2.1⟩ (hkb HPB.out.1 HPB.out.2.1 (HCB.out.1 j hj)))
        rw [len_eq] at this
        exact this
       have hq2 : ∀ w', EOn (fun a => a.block ≠ xB ∧ a.block ≠ yB) w9 w' → w'.cell? ⟨b', off + k, none⟩ = some (.string s) := fun w' hx => hx.cell ⟨hbx, hby⟩ (hkb hbx hby (HCK.out wb HSb.out.x.ext))
       have HS9 := Lib.hid hs9
       clear hs9 hkb hbx hby hcv
       repeat first
        | refine wpG_move' ?_
        | refine wpG_assign' ?_
        | refine wpG_val' ?_
        | refine wpG_no' ?_
       refine wpG_end (fun w10 hx10 => ?_)
       have HS10 := Lib.hid (HS9.out.more hx10)
       have HU10 := Lib.hid (HU9.out.more hx10)
       clear hx10 hcv2 hq2 HS9 HU9 HSb HCB HW1 HW2
       generalize w8.heap.size = n6 at HS10 HPN
       go_wp2_with fail
       refine gQ_normal ?_
       go_wp2_with fail
       go_loopw [11] (fun kv W => ∃ m : Nat, kv = .int .i64 (m : Nat) ∧ m ≤ s.size ∧ Hid (Two A nb tB xB tR yB f (T ++ s.data.toList) k' us n6 W) ∧ Hid (U8At pb s.size W)) (fun kv _ => s.size + 1 - (intOf kv).toNat)
       case atStart => exact ⟨0, rfl, by omega, HS10, HU10⟩
       case round =>
        clear HS10 HU10
        obtain ⟨m, rfl, hm, HSr, HUr⟩ := hrel
        by_cases hml : m < s.size
        ·have hdm : decide (m < s.size) = true := decide_eq_true hml
         have hmI : ((m : Nat) : Int) < (s.size : Nat) := by omega
         obtain ⟨⟨pv, hpv⟩, hpf⟩ := HUr.out.cell hml
         have hm90 : ((m : Nat) : Int) ≤ 90 := by have := hTk.out; omega
         go_wp2_with fail
         exact ⟨⟨m + 1, by simp, by omega, Lib.hid (HSr.out.setP HUr.out HPB.out.1 HPB.out.2.1 HPB.out.2.2.1 HPN.out m 122), Lib.hid (HUr.out.set m 122)⟩, by simp only [intOf]; omega⟩
        ·have hdm : decide (m < s.size) = false := decide_eq_false hml
         have hmI : ¬ ((m : Nat) : Int) < (s.size : Nat) := by omega
         obtain ⟨T0, k0, ws0, HS6, HG6, HN6⟩ : ∃ (T0 : List UInt8) (k0 : Nat) (ws0 : ByteArray), Hid (Two A nb tB xB tR yB f T0 k0 ws0 n6 wr) ∧ Hid (T0.length ≤ total (l.take (k + 1)) ∧ Tie T0 k0 ws0.data.toList) ∧ Hid (ws0.size + k0 = T0.length ∧ T0.length ≤ 90) := ⟨_, _, _, HSr, HG6, Lib.hid (by
          have h := HG6.out.2.size
          rw [len_eq] at h
          have := total_take l (k + 1)
          have := HG6.out.1
          have := HB.out.2
          omega)⟩
         clear HSr HUr HPN HPB hml hm
         obtain ⟨pT, capT, hT2, hT3⟩ := HS6.out.text
         have hszT : ((T0.length : Nat) : Int) - (k0 : Nat) = ((ws0.size : Nat) : Int) := by
          have := HN6.out
          omega
         have hbT : ((T0.length : Nat) : Int) ≤ 90 := by
          have := HN6.out
          omega
         have hkT : ((k0 : Nat) : Int) ≤ (T0.length : Nat) := by
          have := HN6.out
          omega
         go_wp2_with fail
         have q2 : ∀ w', EOn (fun _ => True) wr w' → w'.cell? ⟨yB, 2, none⟩ = some (.slice pT T0.length capT) := fun w' hx => hx.cell trivial hT2
         have q3 : ∀ w', EOn (fun _ => True) wr w' → w'.cell? ⟨yB, 3, none⟩ = some (.int .i64 (k0 : Nat)) := fun w' hx => hx.cell trivial hT3
         clear hT2 hT3
         refine wp_perm (fun _ => True) [0, 2, 3, 4, 5, 6, 7, 8, 9, 10, 11, 1, 12] [true, true, true, true, true, true, true, true, true, true, true, false, true] (by kernel_rfl) (by kernel_rfl) (by simp only [List.map_cons, List.map_nil, nth]; rfl) ?_
         repeat first
          | refine wpG_move' ?_
          | refine wpG_assign' ?_
          | refine wpG_val' ?_
          | refine wpG_no' ?_
         refine wpG_do (by rfl) (fun wh hxh K hK => ?_)
         go_wp2_with fail
         refine (c_TwoH A nb tB xB tR yB k0 n6 f T0 ws0 wh (HS6.out.more hxh)).mono ?_
         rintro e wi ⟨rfl, rfl⟩
         refine hK _ _ ⟨EOn.refl _ _, ?_⟩
         clear hK
         repeat first
          | refine wpG_move' ?_
          | refine wpG_assign' ?_
          | refine wpG_val' ?_
          | refine wpG_no' ?_
         refine wpG_end (fun wj hxj => ?_)
         have HTJ := Lib.hid (HS6.out.more (hxh.trans hxj))
         clear hxh hxj q2 q3
         go_wp2_with fail
         refine gQ_normal ?_
         go_wp2_with fail
         exact ⟨⟨k + 1, k0, n6, T0, ws0, by simp, by have := HST.out.2; omega, HG6, HTJ⟩, by have := HST.out.2; simp only [intOf]; omega⟩
      ·clear hq1
       go_wp2_with fail
       obtain ⟨hxb, hcb⟩ := bytes_of w4 5 s
       refine ⟨EOn.of_ext hxb, ?_⟩
       have hqx : w4.heap.size ≠ xB := by
        have := HSb.out.lx
        have := hx4.sz
        omega
       generalize grownCap w4 s.size 0 5 = qc
       generalize Lib.bytesWorld w4 5 s = w3 at hxb hcb ⊢
       generalize w4.heap.size = qb at hcb hqx ⊢
       have hx3 := hx4.trans hxb
       clear hx4 hxb
       refine wpG_do (by rfl) (fun w5 hx5 K hK => ?_)
       go_wp2_with fail
       refine (HW1.out w5 (HSb.out.more (hx3.trans hx5)) (fun j h => (hx3.trans hx5).cell (HCB.out.1 j h))).mono ?_
       rintro e w6 ⟨rfl, hs6, hk6⟩
       refine hK _ _ ⟨EOn.of_kept hk6 (fun a ha => ha.1), ?_⟩
       clear hK
       refine wpG_do (by rfl) (fun w8 hx8 K hK => ?_)
       go_wp2_with fail
       refine (HW2.out w8 qb qc (hs6.more hx8) (fun j h => hx8.cell (hk6.cell hqx (hx5.cell (hcb j h))))).mono ?_
       rintro e w9 ⟨rfl, hs9, hk9⟩
       have hkb : ∀ {p : Addr} {v : Value}, p.block ≠ xB → p.block ≠ yB → wb.cell? p = some v → w9.cell? p = some v := fun {p} {v} h1 h2 h3 => hk9.cell h2 (hx8.cell (hk6.cell h1 ((hx3.trans hx5).cell h3)))
       have HU9 := Lib.hid ((((HCB.out.2.more (hx3.trans hx5)).kept hk6 HPB.out.1).more hx8).kept hk9 HPB.out.2.1)
       have HPN := Lib.hid (show pb < w8.heap.size from Nat.lt_of_lt_of_le HPB.out.2.2.2 (Nat.le_trans (hx3.trans hx5).sz (Nat.le_trans hk6.1 hx8.sz)))
       refine hK _ _ ⟨EOn.of_kept hk9 (fun a ha => ha.2), ?_⟩
       clear hK hs6 hk6 hk9 hx3 hx5 hx8 hcb hqx
       obtain ⟨hbx, hby⟩ : b' ≠ xB ∧ b' ≠ yB := by
        have h1 : b' < A.heap.size := World.block_lt_of_cell? _ _ (HCK.out A (Ext.refl A))
        have h2 : A.heap.size ≤ xB := HSb.out.x.le
        have h3 := HSb.out.ay
        exact ⟨by omega, by omega⟩
       have hcv2 : ∀ w', EOn (fun a => a.block ≠ xB ∧ a.block ≠ yB) w9 w' → (convert 38 9 (.slice (some ⟨pb, 0, none⟩) s.size pc)).run Tryz.prog w' = .ok (.string s) w' := fun w' hx => by
        have := run_convert_bytes_back (P := Tryz.prog) w' 38 9 5 ⟨pb, 0, none⟩ pc s.data.toList Tryz.underlying38 Tryz.underlying5 Tryz.underlying9 (fun j hj => by
         have hadd : (⟨pb, 0, none⟩ : Addr).add j = ⟨pb, j, none⟩ := by unfold Addr.add; split <;> simp_all
         rw [hadd]
         exact hx.cell ⟨HPB.out.1, HPB.out.2.1⟩ (hkb HPB.out.1 HPB.out.2.1 (HCB.out.1 j hj)))
        rw [len_eq] at this
        exact this
       have hq2 : ∀ w', EOn (fun a => a.block ≠ xB ∧ a.block ≠ yB) w9 w' → w'.cell? ⟨b', off + k, none⟩ = some (.string s) := fun w' hx => hx.cell ⟨hbx, hby⟩ (hkb hbx hby (HCK.out wb HSb.out.x.ext))
       have HS9 := Lib.hid hs9
       clear hs9 hkb hbx hby hcv
       repeat first
        | refine wpG_move' ?_
        | refine wpG_assign' ?_
        | refine wpG_val' ?_
        | refine wpG_no' ?_
       refine wpG_end (fun w10 hx10 => ?_)
       have HS10 := Lib.hid (HS9.out.more hx10)
       have HU10 := Lib.hid (HU9.out.more hx10)
       clear hx10 hcv2 hq2 HS9 HU9 HSb HCB HW1 HW2
       generalize w8.heap.size = n6 at HS10 HPN
       go_wp2_with fail
       refine gQ_normal ?_
       go_wp2_with fail
       go_loopw [11] (fun kv W => ∃ m : Nat, kv = .int .i64 (m : Nat) ∧ m ≤ s.size ∧ Hid (Two A nb tB xB tR yB f (T ++ s.data.toList) k' us n6 W) ∧ Hid (U8At pb s.size W)) (fun kv _ => s.size + 1 - (intOf kv).toNat)
       case atStart => exact ⟨0, rfl, by omega, HS10, HU10⟩
       case round =>
        clear HS10 HU10
        obtain ⟨m, rfl, hm, HSr, HUr⟩ := hrel
        by_cases hml : m < s.size
        ·have hdm : decide (m < s.size) = true := decide_eq_true hml
         have hmI : ((m : Nat) : Int) < (s.size : Nat) := by omega
         obtain ⟨⟨pv, hpv⟩, hpf⟩ := HUr.out.cell hml
         have hm90 : ((m : Nat) : Int) ≤ 90 := by have := hTk.out; omega
         go_wp2_with fail
         exact ⟨⟨m + 1, by simp, by omega, Lib.hid (HSr.out.setP HUr.out HPB.out.1 HPB.out.2.1 HPB.out.2.2.1 HPN.out m 122), Lib.hid (HUr.out.set m 122)⟩, by simp only [intOf]; omega⟩
        ·have hdm : decide (m < s.size) = false := decide_eq_false hml
         have hmI : ¬ ((m : Nat) : Int) < (s.size : Nat) := by omega
         obtain ⟨T0, k0, ws0, HS6, HG6, HN6⟩ : ∃ (T0 : List UInt8) (k0 : Nat) (ws0 : ByteArray), Hid (Two A nb tB xB tR yB f T0 k0 ws0 n6 wr) ∧ Hid (T0.length ≤ total (l.take (k + 1)) ∧ Tie T0 k0 ws0.data.toList) ∧ Hid (ws0.size + k0 = T0.length ∧ T0.length ≤ 90) := ⟨_, _, _, HSr, HG6, Lib.hid (by
          have h := HG6.out.2.size
          rw [len_eq] at h
          have := total_take l (k + 1)
          have := HG6.out.1
          have := HB.out.2
          omega)⟩
         clear HSr HUr HPN HPB hml hm
         obtain ⟨pT, capT, hT2, hT3⟩ := HS6.out.text
         have hszT : ((T0.length : Nat) : Int) - (k0 : Nat) = ((ws0.size : Nat) : Int) := by
          have := HN6.out
          omega
         have hbT : ((T0.length : Nat) : Int) ≤ 90 := by
          have := HN6.out
          omega
         have hkT : ((k0 : Nat) : Int) ≤ (T0.length : Nat) := by
          have := HN6.out
          omega
         go_wp2_with fail
         have q2 : ∀ w', EOn (fun _ => True) wr w' → w'.cell? ⟨yB, 2, none⟩ = some (.slice pT T0.length capT) := fun w' hx => hx.cell trivial hT2
         have q3 : ∀ w', EOn (fun _ => True) wr w' → w'.cell? ⟨yB, 3, none⟩ = some (.int .i64 (k0 : Nat)) := fun w' hx => hx.cell trivial hT3
         clear hT2 hT3
         refine wp_perm (fun _ => True) [0, 2, 3, 4, 5, 6, 7, 8, 9, 10, 11, 1, 12] [true, true, true, true, true, true, true, true, true, true, true, false, true] (by kernel_rfl) (by kernel_rfl) (by simp only [List.map_cons, List.map_nil, nth]; rfl) ?_
         repeat first
          | refine wpG_move' ?_
          | refine wpG_assign' ?_
          | refine wpG_val' ?_
          | refine wpG_no' ?_
         refine wpG_do (by rfl) (fun wh hxh K hK => ?_)
         go_wp2_with fail
         refine (c_TwoH A nb tB xB tR yB k0 n6 f T0 ws0 wh (HS6.out.more hxh)).mono ?_
         rintro e wi ⟨rfl, rfl⟩
         refine hK _ _ ⟨EOn.refl _ _, ?_⟩
         clear hK
         repeat first
          | refine wpG_move' ?_
          | refine wpG_assign' ?_
          | refine wpG_val' ?_
          | refine wpG_no' ?_
         refine wpG_end (fun wj hxj => ?_)
         have HTJ := Lib.hid (HS6.out.more (hxh.trans hxj))
         clear hxh hxj q2 q3
         go_wp2_with fail
         refine gQ_normal ?_
         go_wp2_with fail
         exact ⟨⟨k + 1, k0, n6, T0, ws0, by simp, by have := HST.out.2; omega, HG6, HTJ⟩, by have := HST.out.2; simp only [intOf]; omega⟩
    ·have hd : decide (k < l.length) = false := decide_eq_false hlt
     have hI : ¬ ((k : Nat) : Int) < (l.length : Nat) := by omega
     obtain rfl : k = l.length := by omega
     clear hlt hk
     go_wp2_with fail
     have hTk := Lib.hid (show T.length ≤ 90 ∧ ws.size ≤ T.length by
      have h1 := HG.out.1
      have h3 := total_take l l.length
      have h4 := HB.out.2
      have h5 := HG.out.2.size
      rw [len_eq] at h5
      omega)
     have HC1 := Lib.hid (c_TwoXC A nb tB xB tR yB at' n f HF.out T ws (by have := hTk.out; omega) wr HS.out)
     obtain ⟨z, hz⟩ : ∃ z : ByteArray, (⟨(formT f ws.data.toList).toArray⟩ : ByteArray) = z := ⟨_, rfl⟩
     rw [hz] at HC1
     have HZ := Lib.hid (show (⟨(formT f (T.drop at')).toArray⟩ : ByteArray) = z by rw [← hz, HG.out.2.1])
     have hzz : (z.toList == z.toList) = true := by simp
     clear hz HS
     refine HC1.out.mono ?_
     rintro e w5 ⟨rfl, hs5, -⟩
     have HC2 := Lib.hid (c_TwoYC A nb tB xB tR yB at' n f T ⟨#[]⟩ w5 hs5 (by have := hTk.out; omega) HG.out.2.2.1)
     rw [HZ.out] at HC2
     clear hs5 HC1
     go_wp2_with fail
     refine HC2.out.mono ?_
     rintro e w6 ⟨rfl, hs6, -⟩
     have HS6 := Lib.hid hs6
     clear hs6 HC2
     go_wp2_with fail
     go_ret
     exact ⟨rfl, HXA.out.trans HS6.out.x.ext⟩
  ·have HN := Lib.hid (fun w2 => c_New_no f hf w2)
   have HNR := Lib.hid (fun w2 => c_RNew_no f hf w2)
   clear hb hf hs h
   go_enter Tryz.func5, Tryz.ntmps5
   go_wp2_with fail
   refine HL.out.mono ?_
   rintro e w1 ⟨rfl, hx1⟩
   have HX1 := Lib.hid hx1
   clear hx1
   go_wp2_with fail
   refine (HN.out w1).mono ?_
   rintro e w2 ⟨rfl, e2⟩
   obtain rfl := e2.symm
   clear e2
   go_wp2_with fail
   refine (HNR.out w1).mono ?_
   rintro e w2 ⟨rfl, e2⟩
   obtain rfl := e2.symm
   clear e2
   go_wp2_with fail
   refine (c_num 180 w1).mono ?_
   rintro e w3 ⟨rfl, e3⟩
   obtain rfl := e3.symm
   clear e3
   go_wp2_with fail
   refine (c_live w1 (hT.ext HX1.out)).mono ?_
   rintro e w9 ⟨rfl, hx9⟩
   have HX9 := Lib.hid (HX1.out.trans hx9)
   clear hx9
   go_wp2_with fail
   go_loopw [9] (fun iv W => iv = .int .i64 0 ∧ W = w9) (fun iv _ => 0)
   case atStart => exact ⟨rfl, rfl⟩
   case round =>
    obtain ⟨rfl, rfl⟩ := hrel
    go_wp2_with fail
    go_ret
    exact ⟨rfl, HX9.out⟩
end Go.Proofs.YteokfknkcbmigaaGreatDoor
