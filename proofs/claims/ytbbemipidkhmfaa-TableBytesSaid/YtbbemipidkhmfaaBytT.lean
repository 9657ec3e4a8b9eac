/-
  TableBytes.
-/
import Derived.Laws.IdiomStrings
import Derived.Test.YtbbemipidkhmfaaAsks
import Derived.Test.YtbbemipidkhmfaaBoth
import Derived.Test.YtbbemipidkhmfaaRefLd
import Derived.Test.YtbbemipidkhmfaaOff
import Derived.Test.YtbbemipidkhmfaaWalkN
namespace Go.Proofs.Ytbbemipidkhmfaa
section
open Go.RowKit Go.Maps

/-- Numbers as a text of bytes. -/
def txB (l : List Int) : ByteArray := ⟨(l.map fun x => UInt8.ofNat x.toNat).toArray⟩
set_option maxRecDepth 100000 in
theorem conv_row {w : World} {g off cap : Nat} {l : List Int} (hc : ∀ j (h : j < l.length), w.cell? ⟨g, off + j, none⟩ = some (.int .u8 l[j])) (hb : ∀ x ∈ l, 0 ≤ x ∧ x ≤ 255) : (convert 45 9 (.slice (some ⟨g, off, none⟩) l.length cap)).run Try.prog w = .ok (.string (txB l)) w := by
  have hl : l.length = (l.map fun x => UInt8.ofNat x.toNat).length := by simp
  unfold txB
  rw [show (Value.slice (some ⟨g, off, none⟩) l.length cap) = .slice (some ⟨g, off, none⟩) (l.map fun x => UInt8.ofNat x.toNat).length cap from by rw [← hl]]
  refine (run_convert_bytes_back (P := Try.prog) w 45 9 5 ⟨g, off, none⟩ cap (l.map fun x => UInt8.ofNat x.toNat) Try.underlying45 Try.underlying5 Try.underlying9 (fun j hj => ?_))
  rw [Addr.add_lit]
  have hj' : j < l.length := by simpa using hj
  rw [hc j hj', List.getElem_map]
  congr 2
  have := hb l[j] (List.getElem_mem hj')
  simp only [UInt8.toNat_ofNat']
  omega
theorem conv_own {w : World} {n₀ g cap : Nat} {l : List Int} (h : w.ownsRow n₀ 5 1 (.slice (some ⟨g, 0, none⟩) l.length cap) l.length (byV l)) (hb : ∀ x ∈ l, 0 ≤ x ∧ x ≤ 255) : (convert 45 9 (.slice (some ⟨g, 0, none⟩) l.length cap)).run Try.prog w = .ok (.string (txB l)) w := by
  refine conv_row (fun j hj => ?_) hb
  rw [Nat.zero_add, h.cellAt j (show j < l.length * 1 by omega)]
  simp [byV, hj]
end
section
open Go.RowKit Go.Maps Go.Shelf

theorem headD_byte : ∀ {b : List Int}, (∀ x ∈ b, 0 ≤ x ∧ x ≤ 255) → 0 ≤ b.headD 0 ∧ b.headD 0 ≤ 255
  | [], _ => by simp
  | x :: t, h => by simpa using h x (by simp)
theorem len_le {rest : Int} {L : List Rng} (h : NF rest L) : L.length ≤ 1114112 := by
  have h1 := h.all
  have h2 := h1.1.le
  have h3 := List.length_filter_le (fun x => !(x.cl == rest)) (allGo rest 0 L)
  rw [h1.2] at h3
  omega
theorem own_cap {W : World} {n₀ : Nat} {e : TypeId} {g n cap : Nat} {xs : List Value} (h : W.ownsRow n₀ e 1 (.slice (some ⟨g, 0, none⟩) n cap) n xs) (hn : 0 < n) : n ≤ cap := by
  rcases h.2 with ⟨e2, h0⟩ | ⟨g', cap', cur, e2, _, _, h1, _⟩
  · omega
  · cases e2; exact h1
set_option maxRecDepth 100000 in
set_option maxHeartbeats 8000000 in
theorem c_BytesT (v bv : Value) (l : List Rng) (rest : Int) (b : List Int) (w : World) (h : RgRow w v l) (hbr : ByRow w bv b) :
    Calls Try.prog 6 #[v, .int .i64 rest, bv] w fun e w' => e = .returned (.bool true) ∧ Ext w w' := by
  have hb0 : ∀ x ∈ b, 0 ≤ x ∧ x ≤ 255 := by obtain ⟨_, _, _, _, hb, _⟩ := hbr; exact hb
  have HB0 := Lib.hid hb0
  clear hb0
  obtain ⟨p, cap, rfl⟩ : ∃ p cap, v = .slice p l.length cap := by obtain ⟨p, cap, e, _⟩ := h; exact ⟨p, cap, e⟩
  obtain ⟨bp, bcap, rfl⟩ : ∃ p cap, bv = .slice p b.length cap := by obtain ⟨p, cap, e, _⟩ := hbr; exact ⟨p, cap, e⟩
  by_cases hln : (300 : Int) < (l.length : Nat)
  · go_enter Try.func6, Try.ntmps6
    go_wp2_with fail
    refine (c_live w).mono ?_
    rintro e w2 ⟨rfl, hx2⟩
    go_wp2_with fail
    go_ret
    exact ⟨rfl, hx2⟩
  by_cases hbn : (2000 : Int) < (b.length : Nat)
  · go_enter Try.func6, Try.ntmps6
    go_wp2_with fail
    refine (c_live w).mono ?_
    rintro e w2 ⟨rfl, hx2⟩
    go_wp2_with fail
    go_ret
    exact ⟨rfl, hx2⟩
  have hxA := (Ext.refl w).alloc (.cells #[] 5)
  have hown : (w.alloc (.cells #[] 5)).ownsRow w.heap.size 5 1 (.slice (some ⟨w.heap.size, 0, none⟩) 0 0) 0 [] := ⟨rfl, .inr ⟨_, 0, _, rfl, Nat.le_refl _, World.alloc_heap_new w _, Nat.le_refl _, by decide, rfl, rfl⟩⟩
  obtain ⟨i0, hi0, hz0, hz1, hz2⟩ := info_parts info5p
  cases bp with
  | none =>
    have hl0 : b = [] := by
      by_cases hl : b = []
      · exact hl
      · obtain ⟨b, o, e, _⟩ := hbr.at hl; cases e
    subst hl0
    have hownB := ownsRow_ext hown ((Ext.refl (w.alloc (.cells #[] 5))).alloc (.cells #[.int .u8 9] 5))
    have hxB := hxA.alloc (.cells #[.int .u8 9] 5)
    have hszB := hxB.sz
    have hnewB := cell1_new (w.alloc (.cells #[] 5)) (.int .u8 9) 5
    rw [show (w.alloc (.cells #[] 5)).heap.size = w.heap.size + 1 from by simp] at hnewB
    go_enter Try.func6, Try.ntmps6
    go_wp2_with (at_builtin; refine wpList_append_own _ rfl (.tmp 31) (.tmp 32) 45 rfl w.heap.size 5 i0 (.int .u8 0) 1 1 Try.underlying45 hi0 hz0 hz1 hz2 rfl (by decide) _ 0 [] rfl hownB ⟨w.heap.size + 1, 0, none⟩ 1 1 [.int .u8 9] rfl rfl hnewB (by intro u hu; simp at hu; rw [hu]; rfl) (by unfold maxLen; omega) (by omega) (by simpa using hszB) ?_; intro v3 w3 hown3 hgrow3 _; have hx3 : Ext w w3 := Below.grown hxB hgrow3 hszB (fun k e => (hownB.lt k e).1); obtain ⟨g3, c3, e3⟩ := ownsRow_pos hown3 (by omega); subst e3; have hcap3 := own_cap hown3 (by omega); clear hgrow3 hownB hown hxB hszB hxA)
    have hby : ByRow w3 (.slice (some ⟨g3, 0, none⟩) 0 c3) [] := ⟨_, _, rfl, Nat.zero_le _, by simp, fun hne => absurd rfl hne⟩
    have h9 : w3.cell? ⟨g3, 0, none⟩ = some (.int .u8 9) := by
      rw [hown3.cellAt 0 (show 0 < (0 + 1) * 1 by omega)]
      rfl
    have hno : ∀ L, ¬ GoodB ([] : List Int) L := fun L hg => by have := hg.2; simp [bytesOf] at this
    have hglt := hown3.lt g3 rfl
    refine (c_Load _ ([] : List Int) w3 hby (by first | omega | simp)).mono ?_
    rintro e w4 ⟨hx4, htell, hfresh⟩
    have hbr4 := ByRow.mono (Ext.trans hx3 hx4) hbr
    have hb0 := headD_byte HB0.out
    obtain rfl := tells_bad hb0 hno htell
    have HNO := Lib.hid hno
    clear htell hfresh hno hb0
    go_wp2_with fail
    refine (c_RLoad _ ([] : List Int) w4 hbr4 (by first | omega | simp)).mono ?_
    rintro e w5 ⟨hx5, (⟨rfl, -⟩ | ⟨Y, L', rfl, hg', href⟩)⟩
    · have h95 := (Ext.trans hx4 hx5).cell h9
      go_wp2_with fail
      refine (c_num 31 w5).mono ?_
      rintro e w5 ⟨rfl, rfl⟩
      have hown5 := ownsRow_ext hown3 (Ext.trans hx4 hx5)
      have hx05 := Ext.trans hx3 (Ext.trans hx4 hx5)
      go_wp2_with fail
      go_loopw [12] (fun kv W => ∃ (i : Nat) (xs : List Value), kv = .int .i64 (i : Nat) ∧ i ≤ 1 ∧ xs.length = 1 ∧ W.ownsRow w.heap.size 5 1 (.slice (some ⟨g3, 0, none⟩) (1) c3) (1) xs ∧ Ext w W ∧ Off g3 w5 W) (fun kv _ => 1 + 1 - (intOf kv).toNat)
      case atStart => exact ⟨0, _, rfl, by omega, (by first | rfl | simp [byV_length]), hown5, hx05, Off.refl _ _⟩
      case round =>
        clear hown5 hx05
        obtain ⟨i, xs, rfl, hi, hxl, hrow, hx, hoff⟩ := hrel
        by_cases hlt : i < 1
        · have hd : decide (i < 1) = true := decide_eq_true hlt
          have j1 : ((i : Nat) : Int) < ((1 : Nat) : Int) := by omega
          have j2 : ((i : Nat) : Int) < (0 : Nat) + 1 := by omega
          obtain ⟨u, hu⟩ : ∃ u, xs[i]? = some u := ⟨_, List.getElem?_eq_getElem (by omega)⟩
          have a1 := (hrow.cellAt i (show i < (1) * 1 by omega)).trans hu
          have fz := hrow.frozenAt i
          obtain ⟨n1, n2⟩ := hrow.stored i (.int .u8 238)
          have hxn : Ext w (wr.setCell ⟨g3, i, none⟩ (.int .u8 238)) := Below.grown hx n2 hx.sz (fun k e => by cases e; exact hglt.1)
          have hofn := hoff.trans (Off.of_grown n2)
          clear n2 hu
          go_wp2_with fail
          go_roundw
          case rel => exact ⟨i + 1, xs.set i (.int .u8 238), by simp, by omega, by simp [hxl], n1, hxn, hofn⟩
          case measure => simp [intOf]; omega
        have hd : decide (i < 1) = false := decide_eq_false (by omega)
        clear hrow hoff
        go_wp2_with fail
        refine wp_lex (fun _ => True) [true, true, true, true, true, true, true, true, true, true, true, true, true, true, true, true] (by kernel_rfl) (by kernel_rfl) ?_
        repeat first
          | refine wpG_move (by rfl) (by simp only [Act.eval, Array.getD_eq_getD_getElem?, List.getElem?_toArray, List.getElem?_cons_succ, List.getElem?_cons_zero, Option.getD_some]; try rfl) (by simp only [Act.put, List.setIfInBounds_toArray, List.set_cons_succ, List.set_cons_zero]; rfl) ?_
          | refine wpG_assign (by rfl) (by simp only [Act.eval, Array.getD_eq_getD_getElem?, List.getElem?_toArray, List.getElem?_cons_succ, List.getElem?_cons_zero, Option.getD_some]; try rfl) (by simp only [Act.put, List.setIfInBounds_toArray, List.set_cons_succ, List.set_cons_zero]; rfl) ?_
          | refine wpG_val (by rfl) (fun w' hx => (by go_simp; first | (go_bits; first | exact rfl | exact ⟨by omega, rfl⟩) | exact rfl | exact (if_neg (by omega)).trans rfl | exact ⟨by omega, rfl⟩)) (by simp only [Act.put, List.setIfInBounds_toArray, List.set_cons_succ, List.set_cons_zero]; rfl) ?_
          | refine wpG_no (by rfl) (by simp only [Act.put, List.setIfInBounds_toArray, List.set_cons_succ, List.set_cons_zero]; rfl) ?_
        refine wpG_end (fun wz hxz => wpList_nil (gQ_normal ?_))
        go_wp2_with fail
        have hxq := Ext.trans hx hxz
        refine (c_both _ l rest wz (h.mono hxq) (by omega)).mono ?_
        rintro e w7 ⟨hx7, (rfl | ⟨T2, Y2, L2, rfl, htb2, href2, hcl2⟩)⟩
        · go_wp2_with fail
          refine (c_live w7).mono ?_
          rintro e w8 ⟨rfl, hx8⟩
          go_wp2_with fail
          go_ret
          exact ⟨rfl, Ext.trans hxq (Ext.trans hx7 hx8)⟩
        obtain ⟨T2, U2, ix2, ob2, oc2, ub2, uc2, rfl, htab2⟩ := htb2
        have hv2 : ∃ Y', Y2 = .pointer (some ⟨Y', 0, none⟩) := by obtain ⟨Y, _, e, _⟩ := href2; exact ⟨Y, e⟩
        obtain ⟨Y2, rfl⟩ := hv2
        have hnf2 : NF rest L2 := by obtain ⟨_, _, _, _, _, _, hnf, _⟩ := href2; exact hnf
        have HNF2 := Lib.hid hnf2
        have HCL2 := Lib.hid hcl2
        clear hnf2 hcl2
        go_wp2_with fail
        refine (c_Bytes w7 htab2).mono ?_
        rintro e w8 ⟨pv, R2, rfl, hR2, hown8, hx8⟩
        have hRL2 : R2.filter (fun x => !(x.cl == rest)) = L2 := by
          obtain ⟨q1, q2⟩ := HNF2.out.all
          rw [← q2]
          congr 1
          exact (hR2.congr fun r _ _ => (HCL2.out r).symm).unique q1
        rw [hRL2] at hown8
        have hpb := Lib.hid (bytesOf_byte htab2.r0 HNF2.out.asc0)
        have hl2 := len_le HNF2.out
        have hplen := bytesOf_length (rest := rest) HNF2.out.asc0 hl2
        have hppos : 0 < (bytesOf rest L2).length := by simp [bytesOf]
        obtain ⟨P, hP⟩ : ∃ P, bytesOf rest L2 = P := ⟨_, rfl⟩
        have HP := Lib.hid hP
        rw [hP] at hown8 hpb hplen hppos
        obtain ⟨g8, c8, rfl⟩ := ownsRow_pos hown8 hppos
        clear hP hR2 hRL2
        have hxq8 := Ext.trans hxq (Ext.trans hx7 hx8)
        have hcv8 : ∀ w', EOn (fun _ => True) w8 w' → (convert 45 9 (.slice (some ⟨g8, 0, none⟩) P.length c8)).run Try.prog w' = .ok (.string (txB P)) w' := fun w' hxe => conv_row (fun j hj => by
          refine hxe.cell trivial ?_
          rw [Nat.zero_add, hown8.cellAt j (show j < P.length * 1 by omega)]
          simp [byV, hj]) hpb.out
        obtain ⟨tp, htp⟩ : ∃ tp, txB P = tp := ⟨_, rfl⟩
        have HTP := Lib.hid htp
        rw [htp] at hcv8
        clear htp
        go_wp2_with fail
        refine wp_perm (fun _ => True) [0, 1, 2, 3, 4, 5] [true, true, true, false, true, true] (by kernel_rfl) (by kernel_rfl) (by simp only [List.map_cons, List.map_nil, nth]; rfl) ?_
        repeat first
          | refine wpG_move (by rfl) (by simp only [Act.eval, Array.getD_eq_getD_getElem?, List.getElem?_toArray, List.getElem?_cons_succ, List.getElem?_cons_zero, Option.getD_some]; try rfl) (by simp only [Act.put, List.setIfInBounds_toArray, List.set_cons_succ, List.set_cons_zero]; rfl) ?_
          | refine wpG_assign (by rfl) (by simp only [Act.eval, Array.getD_eq_getD_getElem?, List.getElem?_toArray, List.getElem?_cons_succ, List.getElem?_cons_zero, Option.getD_some]; try rfl) (by simp only [Act.put, List.setIfInBounds_toArray, List.set_cons_succ, List.set_cons_zero]; rfl) ?_
          | refine wpG_val (by rfl) (fun w' hx => (by go_simp; first | (go_bits; first | exact rfl | exact ⟨by omega, rfl⟩) | exact rfl | exact (if_neg (by omega)).trans rfl | exact ⟨by omega, rfl⟩)) (by simp only [Act.put, List.setIfInBounds_toArray, List.set_cons_succ, List.set_cons_zero]; rfl) ?_
          | refine wpG_no (by rfl) (by simp only [Act.put, List.setIfInBounds_toArray, List.set_cons_succ, List.set_cons_zero]; rfl) ?_
        clear hcv8
        refine wpG_do (by rfl) (fun wE hxE K hK => ?_)
        go_wp2_with fail
        refine (c_RBytes wE (href2.ext (Ext.trans hx8 hxE)) hl2).mono ?_
        rintro e w9 ⟨v9, rfl, hown9, hx9⟩
        rw [HP.out] at hown9
        obtain ⟨g9, c9, rfl⟩ := ownsRow_pos hown9 hppos
        have hcv9 : ∀ w', EOn (fun _ => True) w9 w' → (convert 45 9 (.slice (some ⟨g9, 0, none⟩) P.length c9)).run Try.prog w' = .ok (.string tp) w' := fun w' hxe => by
          rw [← HTP.out]
          exact conv_row (fun j hj => by
            refine hxe.cell trivial ?_
            rw [Nat.zero_add, hown9.cellAt j (show j < P.length * 1 by omega)]
            simp [byV, hj]) hpb.out
        have htt8 : (!(tp.toList == tp.toList)) = false := by simp
        refine hK _ _ ⟨EOn.of_ext hx9, ?_⟩
        clear hK hown9
        repeat first
          | refine wpG_move (by rfl) (by simp only [Act.eval, Array.getD_eq_getD_getElem?, List.getElem?_toArray, List.getElem?_cons_succ, List.getElem?_cons_zero, Option.getD_some]; try rfl) (by simp only [Act.put, List.setIfInBounds_toArray, List.set_cons_succ, List.set_cons_zero]; rfl) ?_
          | refine wpG_assign (by rfl) (by simp only [Act.eval, Array.getD_eq_getD_getElem?, List.getElem?_toArray, List.getElem?_cons_succ, List.getElem?_cons_zero, Option.getD_some]; try rfl) (by simp only [Act.put, List.setIfInBounds_toArray, List.set_cons_succ, List.set_cons_zero]; rfl) ?_
          | refine wpG_val (by rfl) (fun w' hx => (by go_simp; first | (go_bits; first | exact rfl | exact ⟨by omega, rfl⟩) | exact rfl | exact (if_neg (by omega)).trans rfl | exact ⟨by omega, rfl⟩)) (by simp only [Act.put, List.setIfInBounds_toArray, List.set_cons_succ, List.set_cons_zero]; rfl) ?_
          | refine wpG_no (by rfl) (by simp only [Act.put, List.setIfInBounds_toArray, List.set_cons_succ, List.set_cons_zero]; rfl) ?_
        refine wpG_end (fun w10 hx10 => wpList_nil (gQ_normal ?_))
        have hx810 := Ext.trans hxE (Ext.trans hx9 hx10)
        clear hcv9 hxE hx9 hx10
        have hbyP := ByRow.mono hx810 (ByRow.of_own hown8 hpb.out)
        have hhd : P.headD 0 = rest := by rw [← HP.out]; rfl
        have hgP : GoodB P L2 := ⟨by rw [hhd]; exact HNF2.out, by rw [hhd]; exact HP.out.symm⟩
        go_wp2_with fail
        refine (c_Load _ P w10 hbyP hplen).mono ?_
        rintro e w11 ⟨hx11, htellP, -⟩
        obtain ⟨T3, rfl, htb3⟩ := tells_good hgP htellP
        rw [hhd] at htb3
        obtain ⟨T3, U3, ix3, ob3, oc3, ub3, uc3, rfl, htab3⟩ := htb3
        have htab11 := htab2.ext (Ext.trans hx8 (Ext.trans hx810 hx11))
        clear htellP hgP hhd hbyP
        go_wp2_with fail
        refine (c_num 0 w11).mono ?_
        rintro e w11 ⟨rfl, rfl⟩
        go_wp2_with fail
        refine (c_Equal true _ htab3 htab11 ⟨fun _ => ⟨rfl, fun l h => h.congr fun r _ _ => HCL2.out r⟩, fun _ => rfl⟩).mono ?_
        rintro e w12 ⟨rfl, hx12⟩
        go_wp2_with fail
        refine (c_live w12).mono ?_
        rintro e w13 ⟨rfl, hx13⟩
        go_wp2_with fail
        go_ret
        exact ⟨rfl, Ext.trans hxq8 (Ext.trans hx810 (Ext.trans hx11 (Ext.trans hx12 hx13)))⟩
    · exact absurd hg' (HNO.out L')
  | some a =>
    have hA : ∀ j u, (byV b)[j]? = some u → (w.alloc (.cells #[] 5)).cell? (a.add j) = some u := by
      intro j u hu
      have hj : j < b.length := by have := (List.getElem?_eq_some_iff.1 hu).1; simpa [byV] using this
      obtain ⟨b', o, e, hc⟩ := (ByRow.mono hxA hbr).at (by intro e; rw [e] at hj; simp at hj)
      cases e
      have hadd : (⟨b', o, none⟩ : Addr).add j = ⟨b', o + j, none⟩ := by unfold Addr.add; split <;> simp_all
      rw [hadd, hc j hj, ← hu]
      simp [byV, hj]
    go_enter Try.func6, Try.ntmps6
    go_wp2_with (at_builtin; first | (refine wpList_append_own _ rfl (.tmp 29) (.tmp 30) 45 rfl w.heap.size 5 i0 (.int .u8 0) 1 1 Try.underlying45 hi0 hz0 hz1 hz2 rfl (by decide) _ 0 [] rfl hown a b.length bcap (byV b) rfl (by rw [byV_length]; omega) hA (by intro u hu; simp only [byV, List.mem_map] at hu; obtain ⟨x, _, rfl⟩ := hu; rfl) (by unfold maxLen; omega) (by omega) (by simp) ?_; intro v2 w2 hown2 hgrow2 _; have hx2 : Ext w w2 := Below.grown hxA hgrow2 (by simp) (fun k e => (hown.lt k e).1); rw [Nat.zero_add, List.nil_append] at hown2; have hownB := ownsRow_ext hown2 ((Ext.refl w2).alloc (.cells #[.int .u8 9] 5)); have hxB := hx2.alloc (.cells #[.int .u8 9] 5); have hszB := hxB.sz; obtain ⟨p2, c2, e2⟩ := own_slice hown2; subst e2; clear hgrow2 hown2 hx2 hown hxA hA) | (refine wpList_append_own _ rfl (.tmp 31) (.tmp 32) 45 rfl w.heap.size 5 i0 (.int .u8 0) 1 1 Try.underlying45 hi0 hz0 hz1 hz2 rfl (by decide) _ b.length (byV b) rfl hownB ⟨w2.heap.size, 0, none⟩ 1 1 [.int .u8 9] rfl rfl (cell1_new w2 _ _) (by intro u hu; simp at hu; rw [hu]; rfl) (by unfold maxLen; omega) (by omega) (by simpa using hszB) ?_; intro v3 w3 hown3 hgrow3 _; have hx3 : Ext w w3 := Below.grown hxB hgrow3 hszB (fun k e => (hownB.lt k e).1); obtain ⟨g3, c3, e3⟩ := ownsRow_pos hown3 (by omega); subst e3; have hcap3 := own_cap hown3 (by omega); clear hgrow3 hownB hxB hszB))
    have hby : ByRow w3 (.slice (some ⟨g3, 0, none⟩) b.length c3) b := ⟨_, _, rfl, by omega, HB0.out, fun hne => ⟨g3, 0, rfl, fun i hi => by
      rw [Nat.zero_add, hown3.cellAt i (show i < (b.length + 1) * 1 by omega), List.getElem?_append_left (by rw [byV_length]; exact hi)]
      simp [byV, hi]⟩⟩
    have h9 : w3.cell? ⟨g3, b.length, none⟩ = some (.int .u8 9) := by
      rw [hown3.cellAt b.length (show b.length < (b.length + 1) * 1 by omega), List.getElem?_append_right (by rw [byV_length]; omega), byV_length]
      simp
    have hglt := hown3.lt g3 rfl
    refine (c_Load _ b w3 hby (by first | omega | simp)).mono ?_
    rintro e w4 ⟨hx4, htell, hfresh⟩
    have hbr4 := ByRow.mono (Ext.trans hx3 hx4) hbr
    by_cases hgood : ∃ L, GoodB b L
    · obtain ⟨L, hg⟩ := hgood
      obtain ⟨T, rfl, htb⟩ := tells_good hg htell
      obtain ⟨T, U, ix, ob, oc, ub, uc, rfl, htab⟩ := htb
      have hfr := hfresh _ rfl
      have HG := Lib.hid hg
      clear htell hfresh hg
      go_wp2_with fail
      refine (c_RLoad _ b w4 hbr4 (by first | omega | simp)).mono ?_
      rintro e w5 ⟨hx5, (⟨-, hno⟩ | ⟨Y, L', rfl, hg', href⟩)⟩
      · exact absurd HG.out (hno L)
      obtain rfl := HG.out.uniq hg'
      have hv : ∃ Y', Y = .pointer (some ⟨Y', 0, none⟩) := by obtain ⟨Y, _, e, _⟩ := href; exact ⟨Y, e⟩
      obtain ⟨Y, rfl⟩ := hv
      clear hg'
      have h95 := (Ext.trans hx4 hx5).cell h9
      go_wp2_with fail
      refine (c_num 0 w5).mono ?_
      rintro e w5 ⟨rfl, rfl⟩
      have hown5 := ownsRow_ext hown3 (Ext.trans hx4 hx5)
      have hx05 := Ext.trans hx3 (Ext.trans hx4 hx5)
      have htab5 := htab.ext hx5
      have hfr5 := hfr.ext hx5
      have hsz34 := hx4.sz
      go_wp2_with fail
      go_loopw [12] (fun kv W => ∃ (i : Nat) (xs : List Value), kv = .int .i64 (i : Nat) ∧ i ≤ (b.length + 1) ∧ xs.length = (b.length + 1) ∧ W.ownsRow w.heap.size 5 1 (.slice (some ⟨g3, 0, none⟩) ((b.length + 1)) c3) ((b.length + 1)) xs ∧ Ext w W ∧ Off g3 w5 W) (fun kv _ => (b.length + 1) + 1 - (intOf kv).toNat)
      case atStart => exact ⟨0, _, rfl, by omega, (by first | rfl | simp [byV_length]), hown5, hx05, Off.refl _ _⟩
      case round =>
        clear hown5 hx05
        obtain ⟨i, xs, rfl, hi, hxl, hrow, hx, hoff⟩ := hrel
        by_cases hlt : i < (b.length + 1)
        · have hd : decide (i < (b.length + 1)) = true := decide_eq_true hlt
          have j1 : ((i : Nat) : Int) < (((b.length + 1) : Nat) : Int) := by omega
          have j2 : ((i : Nat) : Int) < (b.length : Nat) + 1 := by omega
          obtain ⟨u, hu⟩ : ∃ u, xs[i]? = some u := ⟨_, List.getElem?_eq_getElem (by omega)⟩
          have a1 := (hrow.cellAt i (show i < ((b.length + 1)) * 1 by omega)).trans hu
          have fz := hrow.frozenAt i
          obtain ⟨n1, n2⟩ := hrow.stored i (.int .u8 238)
          have hxn : Ext w (wr.setCell ⟨g3, i, none⟩ (.int .u8 238)) := Below.grown hx n2 hx.sz (fun k e => by cases e; exact hglt.1)
          have hofn := hoff.trans (Off.of_grown n2)
          clear n2 hu
          go_wp2_with fail
          go_roundw
          case rel => exact ⟨i + 1, xs.set i (.int .u8 238), by simp, by omega, by simp [hxl], n1, hxn, hofn⟩
          case measure => simp [intOf]; omega
        have hd : decide (i < (b.length + 1)) = false := decide_eq_false (by omega)
        have htabN := htab5.off hfr5 hglt.2 hoff
        have hrefN := href.off (Nat.lt_of_lt_of_le hglt.2 hsz34) hoff
        have hbrN := ByRow.mono hx hbr
        clear hrow hoff htab5 hfr5 href htab hfr
        obtain ⟨b', o', e', hcb⟩ := hbrN.at (by intro e; have := HG.out.2; rw [e] at this; simp [bytesOf] at this)
        cases e'
        have hcv : ∀ w', EOn (fun _ => True) wr w' → (convert 45 9 (.slice (some ⟨b', o', none⟩) b.length bcap)).run Try.prog w' = .ok (.string (txB b)) w' := fun w' hxe => conv_row (fun j hj => hxe.cell trivial (hcb j hj)) HB0.out
        clear hcb hbrN
        go_wp2_with fail
        refine wp_perm (fun _ => True) [0, 1, 2, 3, 4, 5, 6, 7, 8, 11, 12, 9, 10, 13, 14, 15] [true, true, true, true, true, false, true, true, true, true, true, false, true, true, true, true] (by kernel_rfl) (by kernel_rfl) (by simp only [List.map_cons, List.map_nil, nth]; rfl) ?_
        repeat first
          | refine wpG_move (by rfl) (by simp only [Act.eval, Array.getD_eq_getD_getElem?, List.getElem?_toArray, List.getElem?_cons_succ, List.getElem?_cons_zero, Option.getD_some]; try rfl) (by simp only [Act.put, List.setIfInBounds_toArray, List.set_cons_succ, List.set_cons_zero]; rfl) ?_
          | refine wpG_assign (by rfl) (by simp only [Act.eval, Array.getD_eq_getD_getElem?, List.getElem?_toArray, List.getElem?_cons_succ, List.getElem?_cons_zero, Option.getD_some]; try rfl) (by simp only [Act.put, List.setIfInBounds_toArray, List.set_cons_succ, List.set_cons_zero]; rfl) ?_
          | refine wpG_val (by rfl) (fun w' hx => (by go_simp; first | (go_bits; first | exact rfl | exact ⟨by omega, rfl⟩) | exact rfl | exact (if_neg (by omega)).trans rfl | exact ⟨by omega, rfl⟩)) (by simp only [Act.put, List.setIfInBounds_toArray, List.set_cons_succ, List.set_cons_zero]; rfl) ?_
          | refine wpG_no (by rfl) (by simp only [Act.put, List.setIfInBounds_toArray, List.set_cons_succ, List.set_cons_zero]; rfl) ?_
        refine wpG_do (by rfl) (fun wA hxA2 K hK => ?_)
        go_wp2_with fail
        refine (c_asks _ wA (htabN.ext hxA2) (hrefN.ext hxA2) (HG.out.1.len) (fun r _ _ => rfl) (rs := []) ⟨_, _, rfl, Nat.le_refl _, fun h => absurd rfl h⟩ (by simp) (by decide)).mono ?_
        rintro e wB ⟨rfl, hxB2⟩
        refine hK _ _ ⟨EOn.of_ext hxB2, ?_⟩
        have hxAB := Ext.trans hxA2 hxB2
        replace hcv := fun w' hx => hcv w' (EOn.trans (EOn.of_ext hxAB) hx)
        clear hK hxA2 hxB2
        repeat first
          | refine wpG_move (by rfl) (by simp only [Act.eval, Array.getD_eq_getD_getElem?, List.getElem?_toArray, List.getElem?_cons_succ, List.getElem?_cons_zero, Option.getD_some]; try rfl) (by simp only [Act.put, List.setIfInBounds_toArray, List.set_cons_succ, List.set_cons_zero]; rfl) ?_
          | refine wpG_assign (by rfl) (by simp only [Act.eval, Array.getD_eq_getD_getElem?, List.getElem?_toArray, List.getElem?_cons_succ, List.getElem?_cons_zero, Option.getD_some]; try rfl) (by simp only [Act.put, List.setIfInBounds_toArray, List.set_cons_succ, List.set_cons_zero]; rfl) ?_
          | refine wpG_val (by rfl) (fun w' hx => (by go_simp; first | (go_bits; first | exact rfl | exact ⟨by omega, rfl⟩) | exact rfl | exact (if_neg (by omega)).trans rfl | exact ⟨by omega, rfl⟩)) (by simp only [Act.put, List.setIfInBounds_toArray, List.set_cons_succ, List.set_cons_zero]; rfl) ?_
          | refine wpG_no (by rfl) (by simp only [Act.put, List.setIfInBounds_toArray, List.set_cons_succ, List.set_cons_zero]; rfl) ?_
        refine wpG_do (by rfl) (fun wC hxC K hK => ?_)
        go_wp2_with fail
        refine (c_Bytes wC (htabN.ext (Ext.trans hxAB hxC))).mono ?_
        rintro e wD ⟨pv, R, rfl, hR, hownD, hxD⟩
        have hRL : bytesOf (b.headD 0) (R.filter (fun x => !(x.cl == b.headD 0))) = b := by
          obtain ⟨q1, q2⟩ := HG.out.1.all
          rw [hR.unique q1, q2]
          exact HG.out.2.symm
        rw [hRL] at hownD
        obtain ⟨gD, cD, rfl⟩ := ownsRow_pos hownD (by have := congrArg List.length HG.out.2; simp [bytesOf] at this; omega)
        have hcvD : ∀ w', EOn (fun _ => True) wD w' → (convert 45 9 (.slice (some ⟨gD, 0, none⟩) b.length cD)).run Try.prog w' = .ok (.string (txB b)) w' := fun w' hxe => conv_row (fun j hj => by
          refine hxe.cell trivial ?_
          rw [Nat.zero_add, hownD.cellAt j (show j < b.length * 1 by omega)]
          simp [byV, hj]) HB0.out
        refine hK _ _ ⟨EOn.of_ext hxD, ?_⟩
        have hxz := Ext.trans hxAB (Ext.trans hxC hxD)
        obtain ⟨tx, htx⟩ : ∃ tx, txB b = tx := ⟨_, rfl⟩
        rw [htx] at hcvD ⊢
        have htt : (!(tx.toList == tx.toList)) = false := by simp
        clear hK hR hRL hownD hxC hxD hcv hxAB htx
        repeat first
          | refine wpG_move (by rfl) (by simp only [Act.eval, Array.getD_eq_getD_getElem?, List.getElem?_toArray, List.getElem?_cons_succ, List.getElem?_cons_zero, Option.getD_some]; try rfl) (by simp only [Act.put, List.setIfInBounds_toArray, List.set_cons_succ, List.set_cons_zero]; rfl) ?_
          | refine wpG_assign (by rfl) (by simp only [Act.eval, Array.getD_eq_getD_getElem?, List.getElem?_toArray, List.getElem?_cons_succ, List.getElem?_cons_zero, Option.getD_some]; try rfl) (by simp only [Act.put, List.setIfInBounds_toArray, List.set_cons_succ, List.set_cons_zero]; rfl) ?_
          | refine wpG_val (by rfl) (fun w' hx => (by go_simp; first | (go_bits; first | exact rfl | exact ⟨by omega, rfl⟩) | exact rfl | exact (if_neg (by omega)).trans rfl | exact ⟨by omega, rfl⟩)) (by simp only [Act.put, List.setIfInBounds_toArray, List.set_cons_succ, List.set_cons_zero]; rfl) ?_
          | refine wpG_no (by rfl) (by simp only [Act.put, List.setIfInBounds_toArray, List.set_cons_succ, List.set_cons_zero]; rfl) ?_
        refine wpG_end (fun wz hxz2 => wpList_nil (gQ_normal ?_))
        replace hxz := Ext.trans hxz hxz2
        clear hxz2 hcvD
        go_wp2_with fail
        have hxq := Ext.trans hx hxz
        refine (c_both _ l rest wz (h.mono hxq) (by omega)).mono ?_
        rintro e w7 ⟨hx7, (rfl | ⟨T2, Y2, L2, rfl, htb2, href2, hcl2⟩)⟩
        · go_wp2_with fail
          refine (c_live w7).mono ?_
          rintro e w8 ⟨rfl, hx8⟩
          go_wp2_with fail
          go_ret
          exact ⟨rfl, Ext.trans hxq (Ext.trans hx7 hx8)⟩
        obtain ⟨T2, U2, ix2, ob2, oc2, ub2, uc2, rfl, htab2⟩ := htb2
        have hv2 : ∃ Y', Y2 = .pointer (some ⟨Y', 0, none⟩) := by obtain ⟨Y, _, e, _⟩ := href2; exact ⟨Y, e⟩
        obtain ⟨Y2, rfl⟩ := hv2
        have hnf2 : NF rest L2 := by obtain ⟨_, _, _, _, _, _, hnf, _⟩ := href2; exact hnf
        have HNF2 := Lib.hid hnf2
        have HCL2 := Lib.hid hcl2
        clear hnf2 hcl2
        go_wp2_with fail
        refine (c_Bytes w7 htab2).mono ?_
        rintro e w8 ⟨pv, R2, rfl, hR2, hown8, hx8⟩
        have hRL2 : R2.filter (fun x => !(x.cl == rest)) = L2 := by
          obtain ⟨q1, q2⟩ := HNF2.out.all
          rw [← q2]
          congr 1
          exact (hR2.congr fun r _ _ => (HCL2.out r).symm).unique q1
        rw [hRL2] at hown8
        have hpb := Lib.hid (bytesOf_byte htab2.r0 HNF2.out.asc0)
        have hl2 := len_le HNF2.out
        have hplen := bytesOf_length (rest := rest) HNF2.out.asc0 hl2
        have hppos : 0 < (bytesOf rest L2).length := by simp [bytesOf]
        obtain ⟨P, hP⟩ : ∃ P, bytesOf rest L2 = P := ⟨_, rfl⟩
        have HP := Lib.hid hP
        rw [hP] at hown8 hpb hplen hppos
        obtain ⟨g8, c8, rfl⟩ := ownsRow_pos hown8 hppos
        clear hP hR2 hRL2
        have hxq8 := Ext.trans hxq (Ext.trans hx7 hx8)
        have hcv8 : ∀ w', EOn (fun _ => True) w8 w' → (convert 45 9 (.slice (some ⟨g8, 0, none⟩) P.length c8)).run Try.prog w' = .ok (.string (txB P)) w' := fun w' hxe => conv_row (fun j hj => by
          refine hxe.cell trivial ?_
          rw [Nat.zero_add, hown8.cellAt j (show j < P.length * 1 by omega)]
          simp [byV, hj]) hpb.out
        obtain ⟨tp, htp⟩ : ∃ tp, txB P = tp := ⟨_, rfl⟩
        have HTP := Lib.hid htp
        rw [htp] at hcv8
        clear htp
        go_wp2_with fail
        refine wp_perm (fun _ => True) [0, 1, 2, 3, 4, 5] [true, true, true, false, true, true] (by kernel_rfl) (by kernel_rfl) (by simp only [List.map_cons, List.map_nil, nth]; rfl) ?_
        repeat first
          | refine wpG_move (by rfl) (by simp only [Act.eval, Array.getD_eq_getD_getElem?, List.getElem?_toArray, List.getElem?_cons_succ, List.getElem?_cons_zero, Option.getD_some]; try rfl) (by simp only [Act.put, List.setIfInBounds_toArray, List.set_cons_succ, List.set_cons_zero]; rfl) ?_
          | refine wpG_assign (by rfl) (by simp only [Act.eval, Array.getD_eq_getD_getElem?, List.getElem?_toArray, List.getElem?_cons_succ, List.getElem?_cons_zero, Option.getD_some]; try rfl) (by simp only [Act.put, List.setIfInBounds_toArray, List.set_cons_succ, List.set_cons_zero]; rfl) ?_
          | refine wpG_val (by rfl) (fun w' hx => (by go_simp; first | (go_bits; first | exact rfl | exact ⟨by omega, rfl⟩) | exact rfl | exact (if_neg (by omega)).trans rfl | exact ⟨by omega, rfl⟩)) (by simp only [Act.put, List.setIfInBounds_toArray, List.set_cons_succ, List.set_cons_zero]; rfl) ?_
          | refine wpG_no (by rfl) (by simp only [Act.put, List.setIfInBounds_toArray, List.set_cons_succ, List.set_cons_zero]; rfl) ?_
        clear hcv8
        refine wpG_do (by rfl) (fun wE hxE K hK => ?_)
        go_wp2_with fail
        refine (c_RBytes wE (href2.ext (Ext.trans hx8 hxE)) hl2).mono ?_
        rintro e w9 ⟨v9, rfl, hown9, hx9⟩
        rw [HP.out] at hown9
        obtain ⟨g9, c9, rfl⟩ := ownsRow_pos hown9 hppos
        have hcv9 : ∀ w', EOn (fun _ => True) w9 w' → (convert 45 9 (.slice (some ⟨g9, 0, none⟩) P.length c9)).run Try.prog w' = .ok (.string tp) w' := fun w' hxe => by
          rw [← HTP.out]
          exact conv_row (fun j hj => by
            refine hxe.cell trivial ?_
            rw [Nat.zero_add, hown9.cellAt j (show j < P.length * 1 by omega)]
            simp [byV, hj]) hpb.out
        have htt8 : (!(tp.toList == tp.toList)) = false := by simp
        refine hK _ _ ⟨EOn.of_ext hx9, ?_⟩
        clear hK hown9
        repeat first
          | refine wpG_move (by rfl) (by simp only [Act.eval, Array.getD_eq_getD_getElem?, List.getElem?_toArray, List.getElem?_cons_succ, List.getElem?_cons_zero, Option.getD_some]; try rfl) (by simp only [Act.put, List.setIfInBounds_toArray, List.set_cons_succ, List.set_cons_zero]; rfl) ?_
          | refine wpG_assign (by rfl) (by simp only [Act.eval, Array.getD_eq_getD_getElem?, List.getElem?_toArray, List.getElem?_cons_succ, List.getElem?_cons_zero, Option.getD_some]; try rfl) (by simp only [Act.put, List.setIfInBounds_toArray, List.set_cons_succ, List.set_cons_zero]; rfl) ?_
          | refine wpG_val (by rfl) (fun w' hx => (by go_simp; first | (go_bits; first | exact rfl | exact ⟨by omega, rfl⟩) | exact rfl | exact (if_neg (by omega)).trans rfl | exact ⟨by omega, rfl⟩)) (by simp only [Act.put, List.setIfInBounds_toArray, List.set_cons_succ, List.set_cons_zero]; rfl) ?_
          | refine wpG_no (by rfl) (by simp only [Act.put, List.setIfInBounds_toArray, List.set_cons_succ, List.set_cons_zero]; rfl) ?_
        refine wpG_end (fun w10 hx10 => wpList_nil (gQ_normal ?_))
        have hx810 := Ext.trans hxE (Ext.trans hx9 hx10)
        clear hcv9 hxE hx9 hx10
        have hbyP := ByRow.mono hx810 (ByRow.of_own hown8 hpb.out)
        have hhd : P.headD 0 = rest := by rw [← HP.out]; rfl
        have hgP : GoodB P L2 := ⟨by rw [hhd]; exact HNF2.out, by rw [hhd]; exact HP.out.symm⟩
        go_wp2_with fail
        refine (c_Load _ P w10 hbyP hplen).mono ?_
        rintro e w11 ⟨hx11, htellP, -⟩
        obtain ⟨T3, rfl, htb3⟩ := tells_good hgP htellP
        rw [hhd] at htb3
        obtain ⟨T3, U3, ix3, ob3, oc3, ub3, uc3, rfl, htab3⟩ := htb3
        have htab11 := htab2.ext (Ext.trans hx8 (Ext.trans hx810 hx11))
        clear htellP hgP hhd hbyP
        go_wp2_with fail
        refine (c_num 0 w11).mono ?_
        rintro e w11 ⟨rfl, rfl⟩
        go_wp2_with fail
        refine (c_Equal true _ htab3 htab11 ⟨fun _ => ⟨rfl, fun l h => h.congr fun r _ _ => HCL2.out r⟩, fun _ => rfl⟩).mono ?_
        rintro e w12 ⟨rfl, hx12⟩
        go_wp2_with fail
        refine (c_live w12).mono ?_
        rintro e w13 ⟨rfl, hx13⟩
        go_wp2_with fail
        go_ret
        exact ⟨rfl, Ext.trans hxq8 (Ext.trans hx810 (Ext.trans hx11 (Ext.trans hx12 hx13)))⟩
    · have hno := fun L hg => hgood ⟨L, hg⟩
      have hb0 := headD_byte HB0.out
      obtain rfl := tells_bad hb0 hno htell
      have HNO := Lib.hid hno
      clear htell hfresh hno hb0
      go_wp2_with fail
      refine (c_RLoad _ b w4 hbr4 (by first | omega | simp)).mono ?_
      rintro e w5 ⟨hx5, (⟨rfl, -⟩ | ⟨Y, L', rfl, hg', href⟩)⟩
      · have h95 := (Ext.trans hx4 hx5).cell h9
        go_wp2_with fail
        refine (c_num 31 w5).mono ?_
        rintro e w5 ⟨rfl, rfl⟩
        have hown5 := ownsRow_ext hown3 (Ext.trans hx4 hx5)
        have hx05 := Ext.trans hx3 (Ext.trans hx4 hx5)
        go_wp2_with fail
        go_loopw [12] (fun kv W => ∃ (i : Nat) (xs : List Value), kv = .int .i64 (i : Nat) ∧ i ≤ (b.length + 1) ∧ xs.length = (b.length + 1) ∧ W.ownsRow w.heap.size 5 1 (.slice (some ⟨g3, 0, none⟩) ((b.length + 1)) c3) ((b.length + 1)) xs ∧ Ext w W ∧ Off g3 w5 W) (fun kv _ => (b.length + 1) + 1 - (intOf kv).toNat)
        case atStart => exact ⟨0, _, rfl, by omega, (by first | rfl | simp [byV_length]), hown5, hx05, Off.refl _ _⟩
        case round =>
          clear hown5 hx05
          obtain ⟨i, xs, rfl, hi, hxl, hrow, hx, hoff⟩ := hrel
          by_cases hlt : i < (b.length + 1)
          · have hd : decide (i < (b.length + 1)) = true := decide_eq_true hlt
            have j1 : ((i : Nat) : Int) < (((b.length + 1) : Nat) : Int) := by omega
            have j2 : ((i : Nat) : Int) < (b.length : Nat) + 1 := by omega
            obtain ⟨u, hu⟩ : ∃ u, xs[i]? = some u := ⟨_, List.getElem?_eq_getElem (by omega)⟩
            have a1 := (hrow.cellAt i (show i < ((b.length + 1)) * 1 by omega)).trans hu
            have fz := hrow.frozenAt i
            obtain ⟨n1, n2⟩ := hrow.stored i (.int .u8 238)
            have hxn : Ext w (wr.setCell ⟨g3, i, none⟩ (.int .u8 238)) := Below.grown hx n2 hx.sz (fun k e => by cases e; exact hglt.1)
            have hofn := hoff.trans (Off.of_grown n2)
            clear n2 hu
            go_wp2_with fail
            go_roundw
            case rel => exact ⟨i + 1, xs.set i (.int .u8 238), by simp, by omega, by simp [hxl], n1, hxn, hofn⟩
            case measure => simp [intOf]; omega
          have hd : decide (i < (b.length + 1)) = false := decide_eq_false (by omega)
          clear hrow hoff
          go_wp2_with fail
          refine wp_lex (fun _ => True) [true, true, true, true, true, true, true, true, true, true, true, true, true, true, true, true] (by kernel_rfl) (by kernel_rfl) ?_
          repeat first
            | refine wpG_move (by rfl) (by simp only [Act.eval, Array.getD_eq_getD_getElem?, List.getElem?_toArray, List.getElem?_cons_succ, List.getElem?_cons_zero, Option.getD_some]; try rfl) (by simp only [Act.put, List.setIfInBounds_toArray, List.set_cons_succ, List.set_cons_zero]; rfl) ?_
            | refine wpG_assign (by rfl) (by simp only [Act.eval, Array.getD_eq_getD_getElem?, List.getElem?_toArray, List.getElem?_cons_succ, List.getElem?_cons_zero, Option.getD_some]; try rfl) (by simp only [Act.put, List.setIfInBounds_toArray, List.set_cons_succ, List.set_cons_zero]; rfl) ?_
            | refine wpG_val (by rfl) (fun w' hx => (by go_simp; first | (go_bits; first | exact rfl | exact ⟨by omega, rfl⟩) | exact rfl | exact (if_neg (by omega)).trans rfl | exact ⟨by omega, rfl⟩)) (by simp only [Act.put, List.setIfInBounds_toArray, List.set_cons_succ, List.set_cons_zero]; rfl) ?_
            | refine wpG_no (by rfl) (by simp only [Act.put, List.setIfInBounds_toArray, List.set_cons_succ, List.set_cons_zero]; rfl) ?_
          refine wpG_end (fun wz hxz => wpList_nil (gQ_normal ?_))
          go_wp2_with fail
          have hxq := Ext.trans hx hxz
          refine (c_both _ l rest wz (h.mono hxq) (by omega)).mono ?_
          rintro e w7 ⟨hx7, (rfl | ⟨T2, Y2, L2, rfl, htb2, href2, hcl2⟩)⟩
          · go_wp2_with fail
            refine (c_live w7).mono ?_
            rintro e w8 ⟨rfl, hx8⟩
            go_wp2_with fail
            go_ret
            exact ⟨rfl, Ext.trans hxq (Ext.trans hx7 hx8)⟩
          obtain ⟨T2, U2, ix2, ob2, oc2, ub2, uc2, rfl, htab2⟩ := htb2
          have hv2 : ∃ Y', Y2 = .pointer (some ⟨Y', 0, none⟩) := by obtain ⟨Y, _, e, _⟩ := href2; exact ⟨Y, e⟩
          obtain ⟨Y2, rfl⟩ := hv2
          have hnf2 : NF rest L2 := by obtain ⟨_, _, _, _, _, _, hnf, _⟩ := href2; exact hnf
          have HNF2 := Lib.hid hnf2
          have HCL2 := Lib.hid hcl2
          clear hnf2 hcl2
          go_wp2_with fail
          refine (c_Bytes w7 htab2).mono ?_
          rintro e w8 ⟨pv, R2, rfl, hR2, hown8, hx8⟩
          have hRL2 : R2.filter (fun x => !(x.cl == rest)) = L2 := by
            obtain ⟨q1, q2⟩ := HNF2.out.all
            rw [← q2]
            congr 1
            exact (hR2.congr fun r _ _ => (HCL2.out r).symm).unique q1
          rw [hRL2] at hown8
          have hpb := Lib.hid (bytesOf_byte htab2.r0 HNF2.out.asc0)
          have hl2 := len_le HNF2.out
          have hplen := bytesOf_length (rest := rest) HNF2.out.asc0 hl2
          have hppos : 0 < (bytesOf rest L2).length := by simp [bytesOf]
          obtain ⟨P, hP⟩ : ∃ P, bytesOf rest L2 = P := ⟨_, rfl⟩
          have HP := Lib.hid hP
          rw [hP] at hown8 hpb hplen hppos
          obtain ⟨g8, c8, rfl⟩ := ownsRow_pos hown8 hppos
          clear hP hR2 hRL2
          have hxq8 := Ext.trans hxq (Ext.trans hx7 hx8)
          have hcv8 : ∀ w', EOn (fun _ => True) w8 w' → (convert 45 9 (.slice (some ⟨g8, 0, none⟩) P.length c8)).run Try.prog w' = .ok (.string (txB P)) w' := fun w' hxe => conv_row (fun j hj => by
            refine hxe.cell trivial ?_
            rw [Nat.zero_add, hown8.cellAt j (show j < P.length * 1 by omega)]
            simp [byV, hj]) hpb.out
          obtain ⟨tp, htp⟩ : ∃ tp, txB P = tp := ⟨_, rfl⟩
          have HTP := Lib.hid htp
          rw [htp] at hcv8
          clear htp
          go_wp2_with fail
          refine wp_perm (fun _ => True) [0, 1, 2, 3, 4, 5] [true, true, true, false, true, true] (by kernel_rfl) (by kernel_rfl) (by simp only [List.map_cons, List.map_nil, nth]; rfl) ?_
          repeat first
            | refine wpG_move (by rfl) (by simp only [Act.eval, Array.getD_eq_getD_getElem?, List.getElem?_toArray, List.getElem?_cons_succ, List.getElem?_cons_zero, Option.getD_some]; try rfl) (by simp only [Act.put, List.setIfInBounds_toArray, List.set_cons_succ, List.set_cons_zero]; rfl) ?_
            | refine wpG_assign (by rfl) (by simp only [Act.eval, Array.getD_eq_getD_getElem?, List.getElem?_toArray, List.getElem?_cons_succ, List.getElem?_cons_zero, Option.getD_some]; try rfl) (by simp only [Act.put, List.setIfInBounds_toArray, List.set_cons_succ, List.set_cons_zero]; rfl) ?_
            | refine wpG_val (by rfl) (fun w' hx => (by go_simp; first | (go_bits; first | exact rfl | exact ⟨by omega, rfl⟩) | exact rfl | exact (if_neg (by omega)).trans rfl | exact ⟨by omega, rfl⟩)) (by simp only [Act.put, List.setIfInBounds_toArray, List.set_cons_succ, List.set_cons_zero]; rfl) ?_
            | refine wpG_no (by rfl) (by simp only [Act.put, List.setIfInBounds_toArray, List.set_cons_succ, List.set_cons_zero]; rfl) ?_
          clear hcv8
          refine wpG_do (by rfl) (fun wE hxE K hK => ?_)
          go_wp2_with fail
          refine (c_RBytes wE (href2.ext (Ext.trans hx8 hxE)) hl2).mono ?_
          rintro e w9 ⟨v9, rfl, hown9, hx9⟩
          rw [HP.out] at hown9
          obtain ⟨g9, c9, rfl⟩ := ownsRow_pos hown9 hppos
          have hcv9 : ∀ w', EOn (fun _ => True) w9 w' → (convert 45 9 (.slice (some ⟨g9, 0, none⟩) P.length c9)).run Try.prog w' = .ok (.string tp) w' := fun w' hxe => by
            rw [← HTP.out]
            exact conv_row (fun j hj => by
              refine hxe.cell trivial ?_
              rw [Nat.zero_add, hown9.cellAt j (show j < P.length * 1 by omega)]
              simp [byV, hj]) hpb.out
          have htt8 : (!(tp.toList == tp.toList)) = false := by simp
          refine hK _ _ ⟨EOn.of_ext hx9, ?_⟩
          clear hK hown9
          repeat first
            | refine wpG_move (by rfl) (by simp only [Act.eval, Array.getD_eq_getD_getElem?, List.getElem?_toArray, List.getElem?_cons_succ, List.getElem?_cons_zero, Option.getD_some]; try rfl) (by simp only [Act.put, List.setIfInBounds_toArray, List.set_cons_succ, List.set_cons_zero]; rfl) ?_
            | refine wpG_assign (by rfl) (by simp only [Act.eval, Array.getD_eq_getD_getElem?, List.getElem?_toArray, List.getElem?_cons_succ, List.getElem?_cons_zero, Option.getD_some]; try rfl) (by simp only [Act.put, List.setIfInBounds_toArray, List.set_cons_succ, List.set_cons_zero]; rfl) ?_
            | refine wpG_val (by rfl) (fun w' hx => (by go_simp; first | (go_bits; first | exact rfl | exact ⟨by omega, rfl⟩) | exact rfl | exact (if_neg (by omega)).trans rfl | exact ⟨by omega, rfl⟩)) (by simp only [Act.put, List.setIfInBounds_toArray, List.set_cons_succ, List.set_cons_zero]; rfl) ?_
            | refine wpG_no (by rfl) (by simp only [Act.put, List.setIfInBounds_toArray, List.set_cons_succ, List.set_cons_zero]; rfl) ?_
          refine wpG_end (fun w10 hx10 => wpList_nil (gQ_normal ?_))
          have hx810 := Ext.trans hxE (Ext.trans hx9 hx10)
          clear hcv9 hxE hx9 hx10
          have hbyP := ByRow.mono hx810 (ByRow.of_own hown8 hpb.out)
          have hhd : P.headD 0 = rest := by rw [← HP.out]; rfl
          have hgP : GoodB P L2 := ⟨by rw [hhd]; exact HNF2.out, by rw [hhd]; exact HP.out.symm⟩
          go_wp2_with fail
          refine (c_Load _ P w10 hbyP hplen).mono ?_
          rintro e w11 ⟨hx11, htellP, -⟩
          obtain ⟨T3, rfl, htb3⟩ := tells_good hgP htellP
          rw [hhd] at htb3
          obtain ⟨T3, U3, ix3, ob3, oc3, ub3, uc3, rfl, htab3⟩ := htb3
          have htab11 := htab2.ext (Ext.trans hx8 (Ext.trans hx810 hx11))
          clear htellP hgP hhd hbyP
          go_wp2_with fail
          refine (c_num 0 w11).mono ?_
          rintro e w11 ⟨rfl, rfl⟩
          go_wp2_with fail
          refine (c_Equal true _ htab3 htab11 ⟨fun _ => ⟨rfl, fun l h => h.congr fun r _ _ => HCL2.out r⟩, fun _ => rfl⟩).mono ?_
          rintro e w12 ⟨rfl, hx12⟩
          go_wp2_with fail
          refine (c_live w12).mono ?_
          rintro e w13 ⟨rfl, hx13⟩
          go_wp2_with fail
          go_ret
          exact ⟨rfl, Ext.trans hxq8 (Ext.trans hx810 (Ext.trans hx11 (Ext.trans hx12 hx13)))⟩
      · exact absurd hg' (HNO.out L')
end
end Go.Proofs.Ytbbemipidkhmfaa
