/-
 Into what a rune falls apart wholly.
-/
import Derived.Test.YtokeamebcdhnpaaGreatDoorWalkFG
namespace Go.Proofs.YtokeamebcdhnpaaGreatDoor
open Go.RowKit Go.Rp Go.Shelf Go.Maps

theorem shortA : (wordsC textA.data.toList).all (fun ws => decide (ws.length ≤ 21)) = true := by kernel_rfl
theorem shortK : (wordsC textK.data.toList).all (fun ws => decide (ws.length ≤ 21)) = true := by kernel_rfl
theorem goodT_of {L : List (List (List UInt8))} (h : GoodL L) (hs : L.all (fun ws => decide (ws.length ≤ 21)) = true) : GoodT (L.map entOf) := by
 simp only [List.all_eq_true, decide_eq_true_eq] at hs
 refine ⟨fun e he => ?_, ?_⟩
 ·obtain ⟨ws, hw, rfl⟩ := List.mem_map.1 he
  obtain ⟨h1, h2⟩ := h.1 ws hw
  have h3 := hs ws hw
  cases ws with
  | nil => simp at h1
  | cons k xs =>
   simp only [List.length_cons] at h1 h3
   refine ⟨⟨Int.natCast_nonneg _, hex_le (h2 k (by simp))⟩, ?_, fun x hx => ?_⟩
   ·simp only [entOf, List.tail_cons, List.length_map]
    omega
   ·obtain ⟨y, hy, rfl⟩ := List.mem_map.1 hx
    exact ⟨Int.natCast_nonneg _, hex_le (h2 y (by simp at hy; simp [hy]))⟩
 ·have e : (L.map entOf).map (·.1) = (L.map fun ws => hexV (ws.headD [])).map (fun n => ((n : Nat) : Int)) := by
   rw [List.map_map, List.map_map]; rfl
  rw [e]
  unfold List.Nodup
  rw [List.pairwise_map]
  exact List.Pairwise.imp (fun hne e => hne (by omega)) h.2
theorem goodTA : GoodT apartT := goodT_of hA0.2.2 shortA
theorem goodTK : GoodT alsoT := goodT_of hK0.2.2 shortK
theorem flat_le {A K : List (Int × List Int)} (hA : GoodT A) (hK : GoodT K) {d : Nat} (hd : d ≤ 4) (k : Bool) : ∀ l : List Int, (l.flatMap (fal A K d k)).length ≤ l.length * 160000 := by
 have hpw := Nat.pow_le_pow_right (show 0 < 20 by decide) (show d ≤ 4 by omega)
 intro l
 induction l with
 | nil => simp
 | cons x t ih =>
  have := fal_len hA hK d k x
  simp only [List.flatMap_cons, List.length_append, List.length_cons, Nat.add_mul, Nat.one_mul]
  omega
set_option maxRecDepth 100000 in
set_option maxHeartbeats 4000000 in
theorem c_fall (nb tB : Nat) (f : Int) (k : Bool) (hf : decide (f = 2 ∨ f = 3) = k) : ∀ (d : Nat), d ≤ 5 → ∀ (r : Int) (w : World), 0 ≤ r → r < 16777216 → Deep apartT alsoT d k r → NTab nb w tB →
  Calls Tryz.prog 87 #[.pointer (some ⟨tB, 0, none⟩), .int .i32 r, .int .i64 f] w fun e w' => ∃ v, e = .returned v ∧ w'.ownsRow w.heap.size 21 1 v (fal apartT alsoT d k r).length (i32s (fal apartT alsoT d k r)) ∧ Ext w w' := by
 intro d
 induction d with
 | zero => intro _ r w _ _ h; exact h.elim
 | succ d ih =>
  intro hd5 r w h0 h1 hD ht
  obtain ⟨mA, mK, jB, sB, kvA, kvK, kvJ, S, v, hb, hRA, hRK, -, -, -⟩ := ht.ex
  have y0 : w.cell? ⟨tB, 0, none⟩ = some (.map (some mA)) := (cell_blk hb 0).trans rfl
  have y1 : w.cell? ⟨tB, 1, none⟩ = some (.map (some mK)) := (cell_blk hb 1).trans rfl
  have HH := Lib.hid hf
  have hnil : ∀ (w : World) (a : Option Addr) (n c : Nat), (binOp .eql 55 (.slice a n c) (.slice none 0 0)).run Tryz.prog w = .ok (.bool a.isNone) w := fun w a n c => Lib.run_eql_slice_nil w _ _ a n c 0 0 Tryz.underlying55
  have IH := Lib.hid (ih (by omega))
  clear ih hf
  by_cases hs : 44032 ≤ r ∧ r ≤ 55203
  ·obtain ⟨hs1, hs2⟩ := hs
   have hsd := decide_eq_true hs2
   have HE := Lib.hid (show fal apartT alsoT (d + 1) k r = sylE r by unfold fal; rw [if_pos ⟨hs1, hs2⟩])
   clear hD
   go_enter Tryz.func87, Tryz.ntmps87
   go_wp2_with fail
   refine (c_syllable r hs1 hs2 _).mono ?_
   rintro e w2 ⟨v2, rfl, hrow, hx⟩
   have HR := Lib.hid (And.intro hrow hx)
   clear hrow hx
   go_wp2_with fail
   go_ret
   rw [HE.out]
   exact ⟨_, rfl, HR.out.1, HR.out.2⟩
  ·obtain ⟨vA, hlA, hcA⟩ := hRA.look goodTA h0 (by omega)
   have HSN := Lib.hid hs
   obtain ⟨hs1, hs2, hsd⟩ | ⟨hs1, hs2, hsd⟩ : (44032 ≤ r ∧ ¬ r ≤ 55203 ∧ decide (r ≤ 55203) = false) ∨ (¬ 44032 ≤ r ∧ True ∧ True) := by
    by_cases h : 44032 ≤ r
    ·exact .inl ⟨h, fun h2 => hs ⟨h, h2⟩, decide_eq_false fun h2 => hs ⟨h, h2⟩⟩
    ·exact .inr ⟨h, trivial, trivial⟩
   iterate 2
    ·rcases hcA with ⟨l, hlk, hrl⟩ | ⟨hlk, rfl⟩
     ·have hgl : 1 ≤ l.length ∧ l.length ≤ 20 := (goodTA.1 _ (lookE_mem hlk)).2.1
      have hgx : ∀ x ∈ l, 0 ≤ x ∧ x < 16777216 := (goodTA.1 _ (lookE_mem hlk)).2.2
      obtain ⟨pA, capA, rfl⟩ := own_slice hrl
      obtain ⟨gA, rfl, hgA0, hgA1, hgc⟩ := own_at hrl hgl.1
      have HE := Lib.hid (show fal apartT alsoT (d + 1) k r = l.flatMap (fal apartT alsoT d k) by rw [fal, if_neg HSN.out, hlk])
      have HD := Lib.hid (show ∀ x ∈ l, Deep apartT alsoT d k x by
       rcases hD with h | h
       ·exact absurd h HSN.out
       ·rw [hlk] at h; exact h)
      have HGC := Lib.hid hgc
      have HGX := Lib.hid hgx
      have hlI : (0 : Int) < (l.length : Nat) := by omega
      clear hD hlk hgc hrl hgx
      go_enter Tryz.func87, Tryz.ntmps87
      go_wp2_with fail
      have HT := Lib.hid ht
      clear hb hRA hRK ht
      go_loopw [8, 43] (fun ov iv W => ∃ i : Nat, iv = .int .i64 (i : Nat) ∧ i ≤ l.length ∧ W.ownsRow w.heap.size 21 1 ov ((l.take i).flatMap (fal apartT alsoT d k)).length (i32s ((l.take i).flatMap (fal apartT alsoT d k))) ∧ Ext w W) (fun _ iv _ => l.length + 1 - (intOf iv).toNat)
      case atStart => exact ⟨0, rfl, by omega, World.ownsRow_nil _ _ _ _, Ext.refl _⟩
      case round =>
       obtain ⟨i, rfl, hi, hrow, hx⟩ := hrel
       by_cases hlt : i < l.length
       ·have hlI : ((i : Nat) : Int) < (l.length : Nat) := by omega
        have hd : decide (i < l.length) = true := decide_eq_true hlt
        obtain ⟨x, hxi⟩ : ∃ x, l[i] = x := ⟨_, rfl⟩
        have hc := hx.cell ((HGC.out i (by omega)).trans (show (i32s l)[i]? = some (.int .i32 x) by unfold i32s; rw [List.getElem?_map, List.getElem?_eq_getElem hlt, hxi]; rfl))
        have hxm : x ∈ l := by rw [← hxi]; exact List.getElem_mem hlt
        have HXI := Lib.hid hxi
        have HROW := Lib.hid hrow
        clear hxi hrow
        go_wp2_with fail
        refine (IH.out x wr (HGX.out x hxm).1 (HGX.out x hxm).2 (HD.out x hxm) (HT.out.ext hx)).mono ?_
        rintro e w3 ⟨v3, rfl, hrow3, hx3⟩
        have hlen3 := fal_len goodTA goodTK d k x
        obtain ⟨m, hm⟩ : ∃ m, (fal apartT alsoT d k x).length = m := ⟨_, rfl⟩
        obtain ⟨c, hc0⟩ : ∃ c, ((l.take i).flatMap (fal apartT alsoT d k)).length = c := ⟨_, rfl⟩
        have hcl := flat_le goodTA goodTK (d := d) (by omega) k (l.take i)
        have hpw := Nat.pow_le_pow_right (show 0 < 20 by decide) (show d ≤ 4 by omega)
        have hrow2 := ownsRow_ext HROW.out hx3
        rw [hc0] at hcl hrow2
        rw [hm] at hrow3 hlen3
        have hti : (l.take i).length ≤ 20 := by rw [List.length_take]; omega
        obtain ⟨p3, cap3, rfl⟩ := own_slice hrow3
        obtain ⟨g3, rfl, hg30, hg31, hgc3⟩ := own_at hrow3 hlen3.1
        have hbnd : c ≤ 3200000 ∧ m ≤ 160000 := by omega
        have HCAT := Lib.hid (show i32s ((l.take i).flatMap (fal apartT alsoT d k)) ++ i32s (fal apartT alsoT d k x) = i32s ((l.take (i + 1)).flatMap (fal apartT alsoT d k)) ∧ ((l.take (i + 1)).flatMap (fal apartT alsoT d k)).length = c + m by
         rw [List.take_add_one, List.getElem?_eq_getElem hlt, HXI.out, List.flatMap_append, ← hc0, ← hm]
         simp [i32s])
        have HA3 := Lib.hid (show ∀ j u, (i32s (fal apartT alsoT d k x))[j]? = some u → w3.cell? ((⟨g3, 0, none⟩ : Addr).add j) = some u by
         intro j u hu
         have hadd : (⟨g3, 0, none⟩ : Addr).add j = ⟨g3, j, none⟩ := by unfold Addr.add; split <;> simp_all
         have hj : j < m := by
          have := (List.getElem?_eq_some_iff.1 hu).1
          rw [i32s, List.length_map, hm] at this
          exact this
         rw [hadd, hgc3 j (by omega)]
         exact hu)
        have HL3 := Lib.hid (show (i32s (fal apartT alsoT d k x)).length = m * 1 by rw [i32s, List.length_map, hm, Nat.mul_one])
        have hx03 := Ext.trans hx hx3
        have HR2 := Lib.hid (And.intro hrow2 (And.intro hx03 hx03.sz))
        clear hgc3 hrow3 hrow2 hlen3 hpw hti hm hc0 hcl hx3 hx03 hx
        obtain ⟨i0, hi0, hz0, hz1, hz3⟩ := info_parts Tryz.infoI
        go_wp2_with (at_builtin; refine Hid.out ?_)
        refine Lib.hid ?_
        refine wpList_append_own _ rfl (.tmp 47) (.tmp 51) 55 rfl w.heap.size 21 i0 (.int .i32 0) 1 4 Tryz.underlying55 hi0 hz0 hz1 hz3 rfl (by decide) _ c (i32s ((l.take i).flatMap (fal apartT alsoT d k))) rfl HR2.out.1 ⟨g3, 0, none⟩ m cap3 (i32s (fal apartT alsoT d k x)) rfl HL3.out HA3.out (by intro u hu; obtain ⟨z, _, rfl⟩ := List.mem_map.1 hu; rfl) (by unfold maxLen; omega) (by omega) HR2.out.2.2 ?_
        intro v' w4 hown4 hgrow4 _
        have hx4 : Ext w w4 := Below.grown HR2.out.2.1 hgrow4 HR2.out.2.2 (fun k e => (HR2.out.1.lt k e).1)
        rw [HCAT.out.1] at hown4
        have HO4 := Lib.hid (And.intro hown4 hx4)
        clear hown4 hx4 hgrow4
        go_wp2_with fail
        go_roundw
        case rel => exact ⟨i + 1, by simp, by omega, by rw [HCAT.out.2]; exact HO4.out.1, HO4.out.2⟩
        case measure => simp [intOf]; omega
       ·have hd : decide (i < l.length) = false := decide_eq_false hlt
        obtain rfl : i = l.length := by omega
        rw [List.take_length] at hrow
        have HROW := Lib.hid hrow
        clear hrow
        go_wp2_with fail
        go_ret
        rw [HE.out]
        exact ⟨_, rfl, HROW.out, hx⟩
     ·cases k with
      | false =>
       have HE := Lib.hid (show fal apartT alsoT (d + 1) false r = [r] by rw [fal, if_neg HSN.out, hlk]; rfl)
       have hown := own_new w 21 [.int .i32 r] (by unfold maxLen; simp)
       have HO := Lib.hid (And.intro hown ((Ext.refl w).alloc (.cells #[.int .i32 r] 21)))
       clear hD hlk hown hRA hRK
       go_enter Tryz.func87, Tryz.ntmps87
       go_wp2_with fail
       refine (c_loose f _).mono ?_
       rintro e w2 ⟨rfl, e2⟩
       obtain rfl := e2.symm
       rw [HH.out]
       go_wp2_with fail
       go_ret
       rw [HE.out]
       exact ⟨_, rfl, HO.out.1, HO.out.2⟩
      | true =>
       obtain ⟨vK, hlK, hcK⟩ := hRK.look goodTK h0 (by omega)
       rcases hcK with ⟨l, hlk2, hrl⟩ | ⟨hlk2, rfl⟩
       ·have hgl : 1 ≤ l.length ∧ l.length ≤ 20 := (goodTK.1 _ (lookE_mem hlk2)).2.1
        have hgx : ∀ x ∈ l, 0 ≤ x ∧ x < 16777216 := (goodTK.1 _ (lookE_mem hlk2)).2.2
        obtain ⟨pA, capA, rfl⟩ := own_slice hrl
        obtain ⟨gA, rfl, hgA0, hgA1, hgc⟩ := own_at hrl hgl.1
        obtain ⟨k, hk⟩ : ∃ k, true = k := ⟨_, rfl⟩
        have HE := Lib.hid (show fal apartT alsoT (d + 1) k r = l.flatMap (fal apartT alsoT d k) by rw [fal, if_neg HSN.out, hlk, ← hk]; simp only [if_true, hlk2])
        have HD := Lib.hid (show ∀ x ∈ l, Deep apartT alsoT d k x by
         rcases hD with h | h
         ·exact absurd h HSN.out
         ·rw [hlk] at h
          have h := h rfl
          rw [hlk2] at h
          rw [← hk]
          exact h)
        rw [hk] at HH IH ⊢
        have HK := Lib.hid hk
        have HGC := Lib.hid hgc
        have HGX := Lib.hid hgx
        have hlI : (0 : Int) < (l.length : Nat) := by omega
        clear hD hlk hlk2 hgc hrl hgx hk
        go_enter Tryz.func87, Tryz.ntmps87
        go_wp2_with fail
        refine (c_loose f _).mono ?_
        rintro e w2 ⟨rfl, e2⟩
        obtain rfl := e2.symm
        rw [HH.out, ← HK.out]
        go_wp2_with fail
        have HT := Lib.hid ht
        clear hb hRA hRK ht
        go_loopw [8, 43] (fun ov iv W => ∃ i : Nat, iv = .int .i64 (i : Nat) ∧ i ≤ l.length ∧ W.ownsRow w.heap.size 21 1 ov ((l.take i).flatMap (fal apartT alsoT d k)).length (i32s ((l.take i).flatMap (fal apartT alsoT d k))) ∧ Ext w W) (fun _ iv _ => l.length + 1 - (intOf iv).toNat)
        case atStart => exact ⟨0, rfl, by omega, World.ownsRow_nil _ _ _ _, Ext.refl _⟩
        case round =>
         obtain ⟨i, rfl, hi, hrow, hx⟩ := hrel
         by_cases hlt : i < l.length
         ·have hlI : ((i : Nat) : Int) < (l.length : Nat) := by omega
          have hd : decide (i < l.length) = true := decide_eq_true hlt
          obtain ⟨x, hxi⟩ : ∃ x, l[i] = x := ⟨_, rfl⟩
          have hc := hx.cell ((HGC.out i (by omega)).trans (show (i32s l)[i]? = some (.int .i32 x) by unfold i32s; rw [List.getElem?_map, List.getElem?_eq_getElem hlt, hxi]; rfl))
          have hxm : x ∈ l := by rw [← hxi]; exact List.getElem_mem hlt
          have HXI := Lib.hid hxi
          have HROW := Lib.hid hrow
          clear hxi hrow
          go_wp2_with fail
          refine (IH.out x wr (HGX.out x hxm).1 (HGX.out x hxm).2 (HD.out x hxm) (HT.out.ext hx)).mono ?_
          rintro e w3 ⟨v3, rfl, hrow3, hx3⟩
          have hlen3 := fal_len goodTA goodTK d k x
          obtain ⟨m, hm⟩ : ∃ m, (fal apartT alsoT d k x).length = m := ⟨_, rfl⟩
          obtain ⟨c, hc0⟩ : ∃ c, ((l.take i).flatMap (fal apartT alsoT d k)).length = c := ⟨_, rfl⟩
          have hcl := flat_le goodTA goodTK (d := d) (by omega) k (l.take i)
          have hpw := Nat.pow_le_pow_right (show 0 < 20 by decide) (show d ≤ 4 by omega)
          have hrow2 := ownsRow_ext HROW.out hx3
          rw [hc0] at hcl hrow2
          rw [hm] at hrow3 hlen3
          have hti : (l.take i).length ≤ 20 := by rw [List.length_take]; omega
          obtain ⟨p3, cap3, rfl⟩ := own_slice hrow3
          obtain ⟨g3, rfl, hg30, hg31, hgc3⟩ := own_at hrow3 hlen3.1
          have hbnd : c ≤ 3200000 ∧ m ≤ 160000 := by omega
          have HCAT := Lib.hid (show i32s ((l.take i).flatMap (fal apartT alsoT d k)) ++ i32s (fal apartT alsoT d k x) = i32s ((l.take (i + 1)).flatMap (fal apartT alsoT d k)) ∧ ((l.take (i + 1)).flatMap (fal apartT alsoT d k)).length = c + m by
           rw [List.take_add_one, List.getElem?_eq_getElem hlt, HXI.out, List.flatMap_append, ← hc0, ← hm]
           simp [i32s])
          have HA3 := Lib.hid (show ∀ j u, (i32s (fal apartT alsoT d k x))[j]? = some u → w3.cell? ((⟨g3, 0, none⟩ : Addr).add j) = some u by
           intro j u hu
           have hadd : (⟨g3, 0, none⟩ : Addr).add j = ⟨g3, j, none⟩ := by unfold Addr.add; split <;> simp_all
           have hj : j < m := by
            have := (List.getElem?_eq_some_iff.1 hu).1
            rw [i32s, List.length_map, hm] at this
            exact this
           rw [hadd, hgc3 j (by omega)]
           exact hu)
          have HL3 := Lib.hid (show (i32s (fal apartT alsoT d k x)).length = m * 1 by rw [i32s, List.length_map, hm, Nat.mul_one])
          have hx03 := Ext.trans hx hx3
          have HR2 := Lib.hid (And.intro hrow2 (And.intro hx03 hx03.sz))
          clear hgc3 hrow3 hrow2 hlen3 hpw hti hm hc0 hcl hx3 hx03 hx
          obtain ⟨i0, hi0, hz0, hz1, hz3⟩ := info_parts Tryz.infoI
          go_wp2_with (at_builtin; refine Hid.out ?_)
          refine Lib.hid ?_
          refine wpList_append_own _ rfl (.tmp 47) (.tmp 51) 55 rfl w.heap.size 21 i0 (.int .i32 0) 1 4 Tryz.underlying55 hi0 hz0 hz1 hz3 rfl (by decide) _ c (i32s ((l.take i).flatMap (fal apartT alsoT d k))) rfl HR2.out.1 ⟨g3, 0, none⟩ m cap3 (i32s (fal apartT alsoT d k x)) rfl HL3.out HA3.out (by intro u hu; obtain ⟨z, _, rfl⟩ := List.mem_map.1 hu; rfl) (by unfold maxLen; omega) (by omega) HR2.out.2.2 ?_
          intro v' w4 hown4 hgrow4 _
          have hx4 : Ext w w4 := Below.grown HR2.out.2.1 hgrow4 HR2.out.2.2 (fun k e => (HR2.out.1.lt k e).1)
          rw [HCAT.out.1] at hown4
          have HO4 := Lib.hid (And.intro hown4 hx4)
          clear hown4 hx4 hgrow4
          go_wp2_with fail
          go_roundw
          case rel => exact ⟨i + 1, by simp, by omega, by rw [HCAT.out.2]; exact HO4.out.1, HO4.out.2⟩
          case measure => simp [intOf]; omega
         ·have hd : decide (i < l.length) = false := decide_eq_false hlt
          obtain rfl : i = l.length := by omega
          rw [List.take_length] at hrow
          have HROW := Lib.hid hrow
          clear hrow
          go_wp2_with fail
          go_ret
          rw [HE.out]
          exact ⟨_, rfl, HROW.out, hx⟩
       ·have HE := Lib.hid (show fal apartT alsoT (d + 1) true r = [r] by rw [fal, if_neg HSN.out, hlk]; simp only [if_true, hlk2])
        have hown := own_new w 21 [.int .i32 r] (by unfold maxLen; simp)
        have HO := Lib.hid (And.intro hown ((Ext.refl w).alloc (.cells #[.int .i32 r] 21)))
        clear hD hlk hlk2 hown hRA hRK
        go_enter Tryz.func87, Tryz.ntmps87
        go_wp2_with fail
        refine (c_loose f _).mono ?_
        rintro e w2 ⟨rfl, e2⟩
        obtain rfl := e2.symm
        rw [HH.out]
        go_wp2_with fail
        go_ret
        rw [HE.out]
        exact ⟨_, rfl, HO.out.1, HO.out.2⟩
end Go.Proofs.YtokeamebcdhnpaaGreatDoor
