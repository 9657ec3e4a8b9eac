/-
  TableOrder.
-/
import Derived.Test.YtbbemipidkhmfaaOrdM
import Derived.Test.YtbbemipidkhmfaaOpen
import Derived.Test.YtbbemipidkhmfaaRefK
import Derived.Test.YtbbemipidkhmfaaPlanC
namespace Go.Proofs.Ytbbemipidkhmfaa
open Go.RowKit Go.Maps Go.Shelf

/-- Two ranges change places. -/
def swapR (m : List Rng) (k : Nat) : List Rng := match m[k]?, m[0]? with
  | some x, some y => (m.set 0 x).set k y
  | _, _ => m
theorem swapR_perm (m : List Rng) (k : Nat) : (swapR m k).Perm m := by
  unfold swapR
  split
  · rename_i x y hx hy
    obtain ⟨h1, rfl⟩ := List.getElem?_eq_some_iff.1 hx
    obtain ⟨h2, rfl⟩ := List.getElem?_eq_some_iff.1 hy
    exact List.set_set_perm h2 h1
  · exact List.Perm.refl _

theorem sumN_mono (g : Nat → Nat) {a : Nat} : ∀ {b : Nat}, a ≤ b → sumN g a ≤ sumN g b
  | 0, h => by obtain rfl : a = 0 := by omega
               exact Nat.le_refl _
  | b + 1, h => by
    by_cases e : a = b + 1
    · subst e; exact Nat.le_refl _
    · have := sumN_mono g (a := a) (b := b) (by omega)
      rw [sumN]; omega
theorem sumN_le (g : Nat → Nat) {c n : Nat} (h : c < n) : sumN g c + g c ≤ sumN g n := by
  have := sumN_mono g (show c + 1 ≤ n from h)
  rwa [sumN] at this

set_option maxRecDepth 100000 in
set_option maxHeartbeats 8000000 in
theorem c_Order (v tv : Value) (l : List Rng) (rest : Int) (ts : List Int) (w : World) (h : RgRow w v l) (ht : IRow .i64 w tv ts) (hts : ∀ x ∈ ts, -9223372036854775808 ≤ x ∧ x ≤ 9223372036854775807) :
    Calls Try.prog 4 #[v, .int .i64 rest, tv] w fun e w' => e = .returned (.bool true) ∧ Ext w w' := by
  obtain ⟨p, cap, rfl⟩ : ∃ p cap, v = .slice p l.length cap := by obtain ⟨p, cap, e, _⟩ := h; exact ⟨p, cap, e⟩
  obtain ⟨q, tcap, rfl⟩ : ∃ p cap, tv = .slice p ts.length cap := by obtain ⟨p, cap, e, _⟩ := ht; exact ⟨p, cap, e⟩
  by_cases hln : (300 : Int) < (l.length : Nat)
  · go_enter Try.func4, Try.ntmps4
    go_wp2_with fail
    refine (c_live w).mono ?_
    rintro e w2 ⟨rfl, hx2⟩
    go_wp2_with fail
    go_ret
    exact ⟨rfl, hx2⟩
  by_cases htn : (300 : Int) < (ts.length : Nat)
  · go_enter Try.func4, Try.ntmps4
    go_wp2_with fail
    refine (c_live w).mono ?_
    rintro e w2 ⟨rfl, hx2⟩
    go_wp2_with fail
    go_ret
    exact ⟨rfl, hx2⟩
  go_enter Try.func4, Try.ntmps4
  go_wp2_with fail
  refine (c_own _ l w h (by omega)).mono ?_
  rintro e w1 ⟨v1, rfl, ho1, hx1⟩
  go_wp2_with fail
  refine (c_Build v1 l rest w1 (RgRow.of_own ho1)).mono ?_
  rintro e w2 ⟨hx2, (⟨hne, rfl⟩ | ⟨he0, T1, rfl, htb, -⟩)⟩
  · obtain ⟨e0, he0⟩ : ∃ e0, (checkOf l rest).1 = e0 := ⟨_, rfl⟩
    rw [he0] at hne ⊢
    obtain ⟨e1, he1⟩ : ∃ e1, (checkOf l rest).2 = e1 := ⟨_, rfl⟩
    rw [he1]
    have hb : (e0 != 0) = true := by simpa using hne
    clear he0 he1 hne
    go_wp2_with fail
    refine (c_num e0 w2).mono ?_
    rintro e w3 ⟨rfl, rfl⟩
    go_wp2_with fail
    refine (c_live _).mono ?_
    rintro e w4 ⟨rfl, hx4⟩
    go_wp2_with fail
    go_ret
    exact ⟨rfl, Ext.trans (Ext.trans hx1 hx2) hx4⟩
  obtain ⟨T, U, ix, ob, oc, ub, uc, rfl, htab⟩ := htb
  have HE := Lib.hid he0
  have hx02 := Ext.trans hx1 hx2
  clear he0 hx1 hx2 ho1
  go_wp2_with fail
  refine (c_num 0 w2).mono ?_
  rintro e w2 ⟨rfl, rfl⟩
  go_wp2_with fail
  refine (c_own _ l w2 (h.mono hx02) (by omega)).mono ?_
  rintro e w3 ⟨v3, rfl, ho3, hx3⟩
  obtain ⟨p3, cap3, rfl⟩ : ∃ p cap, v3 = .slice p l.length cap := by
    obtain ⟨p, cap, e, _⟩ := RgRow.of_own ho3
    exact ⟨p, cap, e⟩
  have htab3 := htab.ext hx3
  go_wp2_with fail
  go_loopw [11] (fun k W => ∃ (i : Nat) (m : List Rng), k = .int .i64 (i : Nat) ∧ i ≤ ts.length ∧ Hid (m.Perm l) ∧ W.ownsRow w2.heap.size 32 3 (.slice p3 l.length cap3) l.length (rgCells m) ∧ Below w2.heap.size w2 W) (fun k _ => ts.length + 1 - (intOf k).toNat)
  case atStart => exact ⟨0, l, rfl, by omega, Lib.hid (List.Perm.refl _), ho3, hx3⟩
  case round =>
    obtain ⟨i, m, rfl, hi, hperm, hrow, hbl⟩ := hrel
    have hml := hperm.out.length_eq
    by_cases hlt : i < ts.length
    · have hd : decide (i < ts.length) = true := decide_eq_true hlt
      have i1 : ((i : Nat) : Int) < (ts.length : Nat) := by omega
      have hx : Ext w wr := Ext.trans (Ext.trans hx02 (Ext.refl _)) hbl
      by_cases hl0 : 0 < l.length
      · have hd2 : decide (0 < l.length) = true := decide_eq_true hl0
        have i2 : (0 : Int) < (l.length : Nat) := by omega
        obtain ⟨g, cap', e⟩ := ownsRow_pos hrow hl0
        cases e
        obtain ⟨b, off, rfl, hc⟩ := (ht.mono hx).at (by intro e; rw [e] at hlt; simp at hlt)
        have c0 := hc i hlt
        obtain ⟨x, hxe⟩ : ∃ x, ts[i] = x := ⟨_, rfl⟩
        rw [hxe] at c0
        obtain ⟨q, hq⟩ : ∃ q, Int.tmod x (l.length : Nat) = q := ⟨_, rfl⟩
        have hq1 : q < (l.length : Nat) := by rw [← hq]; exact Int.tmod_lt_of_pos _ i2
        have hq2 : -(l.length : Nat) < q := by rw [← hq]; have := Int.lt_tmod_of_pos x (b := (l.length : Nat)) i2; simpa using this
        obtain ⟨k, hk⟩ : ∃ k : Nat, Int.tmod (q + (l.length : Nat)) (l.length : Nat) = (k : Nat) := ⟨(Int.tmod (q + (l.length : Nat)) (l.length : Nat)).toNat, by
          have := Int.tmod_nonneg (l.length : Nat) (a := q + (l.length : Nat)) (by omega)
          omega⟩
        have hk1 : k < l.length := by
          have := Int.tmod_lt_of_pos (q + (l.length : Nat)) i2
          omega
        have hkI : ((k : Nat) : Int) < (l.length : Nat) := by omega
        obtain ⟨r0, r1, r2⟩ := own_getR hrow 0 hl0 (by omega)
        obtain ⟨s0, s1, s2⟩ := own_getR hrow k hk1 (by omega)
        simp only [Nat.zero_mul, Nat.zero_add] at r0 r1 r2
        obtain ⟨x0, hx0⟩ : ∃ x, m[0]'(by omega) = x := ⟨_, rfl⟩
        obtain ⟨xk, hxk⟩ : ∃ x, m[k]'(by omega) = x := ⟨_, rfl⟩
        rw [hx0] at r0 r1 r2
        rw [hxk] at s0 s1 s2
        have hsw : swapR m k = (m.set 0 xk).set k x0 := by
          unfold swapR
          rw [List.getElem?_eq_getElem (by omega), List.getElem?_eq_getElem (by omega), hx0, hxk]
        have HSW := Lib.hid hsw
        have y0 : ∀ w', EOn (fun _ => True) wr w' → w'.cell? ⟨g, 0, none⟩ = some (.int .i32 x0.lo) := fun w' hx => hx.cell trivial r0
        have y1 : ∀ w', EOn (fun _ => True) wr w' → w'.cell? ⟨g, 1, none⟩ = some (.int .i32 x0.hi) := fun w' hx => hx.cell trivial r1
        have y2 : ∀ w', EOn (fun _ => True) wr w' → w'.cell? ⟨g, 2, none⟩ = some (.int .i64 x0.cl) := fun w' hx => hx.cell trivial r2
        have z0 : ∀ w', EOn (fun _ => True) wr w' → w'.cell? ⟨g, k * 3, none⟩ = some (.int .i32 xk.lo) := fun w' hx => hx.cell trivial s0
        have z1 : ∀ w', EOn (fun _ => True) wr w' → w'.cell? ⟨g, k * 3 + 1, none⟩ = some (.int .i32 xk.hi) := fun w' hx => hx.cell trivial s1
        have z2 : ∀ w', EOn (fun _ => True) wr w' → w'.cell? ⟨g, k * 3 + 2, none⟩ = some (.int .i64 xk.cl) := fun w' hx => hx.cell trivial s2
        clear hc hxe hx0 hxk hsw r0 r1 r2 s0 s1 s2
        go_wp2_with fail
        refine wp_reck (fun _ => True) [0, 1, 2, 3, 4, 5, 7, 8] [6, 9, 10, 11, 12, 13] [true, true] (by kernel_rfl) (by kernel_rfl) (by simp only [List.map_cons, List.map_nil, nth]; rfl) (by simp only [List.map_cons, List.map_nil, nth]; rfl) (fun wq hxq => ?_)
        repeat first
          | refine wpP_move (by rfl) (by simp only [Act.eval, Array.getD_eq_getD_getElem?, List.getElem?_toArray, List.getElem?_cons_succ, List.getElem?_cons_zero, Option.getD_some]; try rfl) (by simp only [Act.put, List.setIfInBounds_toArray, List.set_cons_succ, List.set_cons_zero]; rfl) ?_
          | refine wpP_val (by rfl) (fun w' => (by go_simp; first | (go_bits; first | exact rfl | exact ⟨by omega, rfl⟩) | exact rfl | exact (if_neg (by omega)).trans rfl | exact ⟨by omega, rfl⟩)) (by simp only [Act.put, List.setIfInBounds_toArray, List.set_cons_succ, List.set_cons_zero]; rfl) ?_
        refine wpP_end ?_
        replace y0 := fun w' hx => y0 w' (EOn.trans (EOn.of_ext hxq) hx)
        replace y1 := fun w' hx => y1 w' (EOn.trans (EOn.of_ext hxq) hx)
        replace y2 := fun w' hx => y2 w' (EOn.trans (EOn.of_ext hxq) hx)
        replace z0 := fun w' hx => z0 w' (EOn.trans (EOn.of_ext hxq) hx)
        replace z1 := fun w' hx => z1 w' (EOn.trans (EOn.of_ext hxq) hx)
        replace z2 := fun w' hx => z2 w' (EOn.trans (EOn.of_ext hxq) hx)
        repeat first
          | refine wpG_move (by rfl) (by simp only [Act.eval, Array.getD_eq_getD_getElem?, List.getElem?_toArray, List.getElem?_cons_succ, List.getElem?_cons_zero, Option.getD_some]; try rfl) (by simp only [Act.put, List.setIfInBounds_toArray, List.set_cons_succ, List.set_cons_zero]; rfl) ?_
          | refine wpG_assign (by rfl) (by simp only [Act.eval, Array.getD_eq_getD_getElem?, List.getElem?_toArray, List.getElem?_cons_succ, List.getElem?_cons_zero, Option.getD_some]; try rfl) (by simp only [Act.put, List.setIfInBounds_toArray, List.set_cons_succ, List.set_cons_zero]; rfl) ?_
          | refine wpG_val (by rfl) (fun w' hx => (by go_simp; first | (go_bits; first | exact rfl | exact ⟨by omega, rfl⟩) | exact rfl | exact (if_neg (by omega)).trans rfl | exact ⟨by omega, rfl⟩)) (by simp only [Act.put, List.setIfInBounds_toArray, List.set_cons_succ, List.set_cons_zero]; rfl) ?_
          | refine wpG_no (by rfl) (by simp only [Act.put, List.setIfInBounds_toArray, List.set_cons_succ, List.set_cons_zero]; rfl) ?_
        refine wpG_end (fun w5 hx5 => ?_)
        replace hx5 := Ext.trans hxq hx5
        have hrow5 := ownsRow_ext hrow hx5
        obtain ⟨n1, n2, n3⟩ := own_setR hrow5 0 (by omega) xk
        have hbl5 := Below.trans hbl (Below.mono hx5 hbl.size)
        have m1 := n2 hbl5.size
        obtain ⟨n4, n5, n6⟩ := own_setR n1 k (by simp; omega) x0
        have m2 := n5 (Nat.le_trans hbl5.size m1.size)
        rw [← HSW.out] at n4
        have hblZ := (hbl5.trans m1).trans m2
        clear hrow y0 y1 y2 z0 z1 z2
        go_wp2_with (first | (refine wpList_storeR rfl (.tmp 82) (.tmp 78) rfl (i := 0) xk rfl rfl rfl hrow5 hl0 ?_; obtain ⟨W1, hW1⟩ : ∃ W, setR w5 g 0 xk = W := ⟨_, rfl⟩; rw [hW1] at n1 n4 hblZ ⊢; clear hW1 n2 n3 n5 n6 m1 m2 hrow5) | refine wpList_storeR rfl (.tmp 83) (.tmp 81) rfl x0 rfl rfl rfl n1 hk1 ?_)
        refine gQ_normal ?_
        go_wp2_with fail
        go_roundw
        case rel =>
          exact ⟨i + 1, swapR m k, by simp, by omega, Lib.hid ((swapR_perm m k).trans hperm.out), n4, hblZ⟩
        case measure => simp [intOf]; omega
      · have hd2 : decide (0 < l.length) = false := decide_eq_false hl0
        have hxA : Ext w wr := Ext.trans hx02 hbl
        have htabA := htab.ext hbl
        have hck : checkOf m rest = (0, 0) := checkOf_perm hperm.out HE.out
        have hrg : RgRow wr (.slice p3 l.length cap3) m := by
          have h2 := hrow
          rw [← hml] at h2 ⊢
          exact RgRow.of_own h2
        have HCK := Lib.hid hck
        obtain ⟨hr0, hlen, hap, hok⟩ := checkOf_ok HE.out
        have HCL := Lib.hid (clsOf_perm hperm.out hap rest)
        have HAP := Lib.hid hap
        have HOK := Lib.hid hok
        have HLN := Lib.hid hlen
        clear hml hck hrow hbl hap hok hlen
        go_wp2_with fail
        refine (c_Build _ m rest wr hrg).mono ?_
        rintro e w4 ⟨hx4, (⟨hne, -⟩ | ⟨-, T2, rfl, htb2, -⟩)⟩
        · exact absurd (by rw [HCK.out]) hne
        obtain ⟨T2, U2, ix2, ob2, oc2, ub2, uc2, rfl, ht2⟩ := htb2
        rw [HCL.out] at ht2
        have htab4 := htabA.ext hx4
        go_wp2_with fail
        refine (c_Ranges w4 htab4).mono ?_
        rintro e w5 ⟨rv, L, rfl, hL, hor, hx5⟩
        obtain ⟨M, hM⟩ : ∃ M, L.filter (fun x => !(x.cl == rest)) = M := ⟨_, rfl⟩
        have hf : ∀ r, 0 ≤ r → r ≤ 1114111 → 0 ≤ clsOf l rest r ∧ clsOf l rest r ≤ 255 := fun r _ _ => clsOf_range HOK.out hr0.1 hr0.2
        have hri : Rise M := by rw [← hM]; exact ((hL.asc (fun x => !(x.cl == rest)) hf (by omega)).rise (by omega)).1
        have hck2 : checkOf M rest = (0, 0) := checkOf_zero hr0 (by have := runs_length HAP.out HOK.out hr0 hL; rw [hM] at this; have := HLN.out; omega) (rise_apart hri) hri.ok
        have hcl2 := cls_runs (rest := rest) hf hL
        rw [hM] at hor hcl2
        have HCK2 := Lib.hid hck2
        have HCL2 := Lib.hid hcl2
        have HF := Lib.hid hf
        clear hck2 hcl2 hM hri hf hL
        have hrg2 := RgRow.of_own hor
        have htab5 := htab4.ext hx5
        go_wp2_with fail
        refine (c_Rest w5 htab5).mono ?_
        rintro e w5 ⟨rfl, rfl⟩
        go_wp2_with fail
        refine (c_Build rv M rest w5 hrg2).mono ?_
        rintro e w6 ⟨hx6, (⟨hne, -⟩ | ⟨-, T3, rfl, htb3, -⟩)⟩
        · exact absurd (by rw [HCK2.out]) hne
        obtain ⟨T3, U3, ix3, ob3, oc3, ub3, uc3, rfl, ht3⟩ := htb3
        have htab6 := htab5.ext hx6
        have ht26 := (ht2.ext hx5).ext hx6
        have hx06 : Ext w w6 := Ext.trans (Ext.trans (Ext.trans hxA hx4) hx5) hx6
        clear hor hrg2 hrg htabA htab4 htab5 ht2 hx4 hx5 hx6 hxA
        go_wp2_with fail
        go_loopw [19, 20] (fun nv k W => ∃ c : Nat, k = .int .i64 (c : Nat) ∧ c ≤ 256 ∧ nv = .int .i64 (sumN (fun c => total (clsOf l rest) c 8704) c : Nat) ∧ Ext w6 W) (fun _ k _ => 257 - (intOf k).toNat)
        case atStart => exact ⟨0, rfl, by omega, rfl, Ext.refl _⟩
        case round =>
          obtain ⟨c, rfl, hc, rfl, hxc⟩ := hrel
          by_cases hlt2 : c < 256
          · have hle2 : ((c : Nat) : Int) ≤ 255 := by omega
            go_wp2_with fail
            refine (c_Count c _ (htab6.ext hxc)).mono ?_
            rintro e w7 ⟨rfl, hx7⟩
            have hs := sum_total HF.out
            have hmono : sumN (fun c => total (clsOf l rest) c 8704) c + total (clsOf l rest) c 8704 ≤ 1114112 := by
              rw [← hs]
              exact sumN_le (fun c : Nat => total (clsOf l rest) c 8704) hlt2
            clear hs
            go_wp2_with fail
            go_roundw
            case rel => exact ⟨c + 1, by simp, by omega, by rw [sumN]; simp, Ext.trans hxc hx7⟩
            case measure => simp [intOf]; omega
          · obtain rfl : c = 256 := by omega
            have hs := sum_total HF.out
            rw [hs]
            clear hs
            have htab7 := htab6.ext hxc
            have ht27 := ht26.ext hxc
            have ht37 := ht3.ext hxc
            have hx07 := Ext.trans hx06 hxc
            go_wp2_with fail
            refine (c_num 0 _).mono ?_
            rintro e w7 ⟨rfl, rfl⟩
            go_wp2_with fail
            refine (c_num 0 _).mono ?_
            rintro e w7 ⟨rfl, rfl⟩
            go_wp2_with fail
            refine (c_Equal true _ htab7 ht27 (by simp)).mono ?_
            rintro e w8 ⟨rfl, hx8⟩
            go_wp2_with fail
            refine (c_Equal true _ (htab7.ext hx8) (ht37.ext hx8) ⟨fun _ => ⟨rfl, fun L h => h.congr fun r h0 h1 => (HCL2.out r h0 h1).symm⟩, fun _ => rfl⟩).mono ?_
            rintro e w9 ⟨rfl, hx9⟩
            go_wp2_with fail
            refine (c_live _).mono ?_
            rintro e w10 ⟨rfl, hx10⟩
            go_wp2_with fail
            go_ret
            exact ⟨rfl, Ext.trans (Ext.trans (Ext.trans hx07 hx8) hx9) hx10⟩
    · have hd : decide (i < ts.length) = false := decide_eq_false hlt
      have hxA : Ext w wr := Ext.trans hx02 hbl
      have htabA := htab.ext hbl
      have hck : checkOf m rest = (0, 0) := checkOf_perm hperm.out HE.out
      have hrg : RgRow wr (.slice p3 l.length cap3) m := by
        have h2 := hrow
        rw [← hml] at h2 ⊢
        exact RgRow.of_own h2
      have HCK := Lib.hid hck
      obtain ⟨hr0, hlen, hap, hok⟩ := checkOf_ok HE.out
      have HCL := Lib.hid (clsOf_perm hperm.out hap rest)
      have HAP := Lib.hid hap
      have HOK := Lib.hid hok
      have HLN := Lib.hid hlen
      clear hml hck hrow hbl hap hok hlen
      go_wp2_with fail
      refine (c_Build _ m rest wr hrg).mono ?_
      rintro e w4 ⟨hx4, (⟨hne, -⟩ | ⟨-, T2, rfl, htb2, -⟩)⟩
      · exact absurd (by rw [HCK.out]) hne
      obtain ⟨T2, U2, ix2, ob2, oc2, ub2, uc2, rfl, ht2⟩ := htb2
      rw [HCL.out] at ht2
      have htab4 := htabA.ext hx4
      go_wp2_with fail
      refine (c_Ranges w4 htab4).mono ?_
      rintro e w5 ⟨rv, L, rfl, hL, hor, hx5⟩
      obtain ⟨M, hM⟩ : ∃ M, L.filter (fun x => !(x.cl == rest)) = M := ⟨_, rfl⟩
      have hf : ∀ r, 0 ≤ r → r ≤ 1114111 → 0 ≤ clsOf l rest r ∧ clsOf l rest r ≤ 255 := fun r _ _ => clsOf_range HOK.out hr0.1 hr0.2
      have hri : Rise M := by rw [← hM]; exact ((hL.asc (fun x => !(x.cl == rest)) hf (by omega)).rise (by omega)).1
      have hck2 : checkOf M rest = (0, 0) := checkOf_zero hr0 (by have := runs_length HAP.out HOK.out hr0 hL; rw [hM] at this; have := HLN.out; omega) (rise_apart hri) hri.ok
      have hcl2 := cls_runs (rest := rest) hf hL
      rw [hM] at hor hcl2
      have HCK2 := Lib.hid hck2
      have HCL2 := Lib.hid hcl2
      have HF := Lib.hid hf
      clear hck2 hcl2 hM hri hf hL
      have hrg2 := RgRow.of_own hor
      have htab5 := htab4.ext hx5
      go_wp2_with fail
      refine (c_Rest w5 htab5).mono ?_
      rintro e w5 ⟨rfl, rfl⟩
      go_wp2_with fail
      refine (c_Build rv M rest w5 hrg2).mono ?_
      rintro e w6 ⟨hx6, (⟨hne, -⟩ | ⟨-, T3, rfl, htb3, -⟩)⟩
      · exact absurd (by rw [HCK2.out]) hne
      obtain ⟨T3, U3, ix3, ob3, oc3, ub3, uc3, rfl, ht3⟩ := htb3
      have htab6 := htab5.ext hx6
      have ht26 := (ht2.ext hx5).ext hx6
      have hx06 : Ext w w6 := Ext.trans (Ext.trans (Ext.trans hxA hx4) hx5) hx6
      clear hor hrg2 hrg htabA htab4 htab5 ht2 hx4 hx5 hx6 hxA
      go_wp2_with fail
      go_loopw [19, 20] (fun nv k W => ∃ c : Nat, k = .int .i64 (c : Nat) ∧ c ≤ 256 ∧ nv = .int .i64 (sumN (fun c => total (clsOf l rest) c 8704) c : Nat) ∧ Ext w6 W) (fun _ k _ => 257 - (intOf k).toNat)
      case atStart => exact ⟨0, rfl, by omega, rfl, Ext.refl _⟩
      case round =>
        obtain ⟨c, rfl, hc, rfl, hxc⟩ := hrel
        by_cases hlt2 : c < 256
        · have hle2 : ((c : Nat) : Int) ≤ 255 := by omega
          go_wp2_with fail
          refine (c_Count c _ (htab6.ext hxc)).mono ?_
          rintro e w7 ⟨rfl, hx7⟩
          have hs := sum_total HF.out
          have hmono : sumN (fun c => total (clsOf l rest) c 8704) c + total (clsOf l rest) c 8704 ≤ 1114112 := by
            rw [← hs]
            exact sumN_le (fun c : Nat => total (clsOf l rest) c 8704) hlt2
          clear hs
          go_wp2_with fail
          go_roundw
          case rel => exact ⟨c + 1, by simp, by omega, by rw [sumN]; simp, Ext.trans hxc hx7⟩
          case measure => simp [intOf]; omega
        · obtain rfl : c = 256 := by omega
          have hs := sum_total HF.out
          rw [hs]
          clear hs
          have htab7 := htab6.ext hxc
          have ht27 := ht26.ext hxc
          have ht37 := ht3.ext hxc
          have hx07 := Ext.trans hx06 hxc
          go_wp2_with fail
          refine (c_num 0 _).mono ?_
          rintro e w7 ⟨rfl, rfl⟩
          go_wp2_with fail
          refine (c_num 0 _).mono ?_
          rintro e w7 ⟨rfl, rfl⟩
          go_wp2_with fail
          refine (c_Equal true _ htab7 ht27 (by simp)).mono ?_
          rintro e w8 ⟨rfl, hx8⟩
          go_wp2_with fail
          refine (c_Equal true _ (htab7.ext hx8) (ht37.ext hx8) ⟨fun _ => ⟨rfl, fun L h => h.congr fun r h0 h1 => (HCL2.out r h0 h1).symm⟩, fun _ => rfl⟩).mono ?_
          rintro e w9 ⟨rfl, hx9⟩
          go_wp2_with fail
          refine (c_live _).mono ?_
          rintro e w10 ⟨rfl, hx10⟩
          go_wp2_with fail
          go_ret
          exact ⟨rfl, Ext.trans (Ext.trans (Ext.trans hx07 hx8) hx9) hx10⟩
end Go.Proofs.Ytbbemipidkhmfaa
