/-
  The document's Map.
-/
import Derived.Test.YtbbemipidkhmfaaMapB
import Derived.Test.YtbbemipidkhmfaaRefF
namespace Go.Proofs.Ytbbemipidkhmfaa
open Go.RowKit Go.Maps Go.Shelf

/-- Which lists of ranges may be mapped does not hang on the rest's runs. -/
theorem badMap_rest {tl : List Int} {rest : Int} {L : List Rng} (h : NF rest L) : badMap tl rest (allGo rest 0 L) = badMap tl rest L := by
  unfold badMap
  by_cases h2 : ((tl.length : Nat) : Int) ≤ rest
  · simp [h2]
  · congr 1
    congr 1
    have hf := h.all.2
    rw [Bool.eq_iff_iff, List.any_eq_true, List.any_eq_true]
    constructor
    · rintro ⟨x, hx, hd⟩
      refine ⟨x, ?_, hd⟩
      rw [← hf]
      refine List.mem_filter.2 ⟨hx, ?_⟩
      simp at hd ⊢
      intro e
      omega
    · rintro ⟨x, hx, hd⟩
      rw [← hf] at hx
      exact ⟨x, (List.mem_filter.1 hx).1, hd⟩
set_option maxRecDepth 100000 in
set_option maxHeartbeats 8000000 in
theorem c_RMap {n : Nat} {v : Value} {rest : Int} {L : List Rng} (tv : Value) (tl : List Int) (w : World) (h : IsRef n w v rest L) (ht : IRow .i64 w tv tl) (htl : tl.length ≤ 2000000) (hl : L.length ≤ 2000000) :
    Calls Try.prog 30 #[v, tv] w fun e w' => Ext w w' ∧
      ((badMap tl rest L = true ∧ e = .returned (.tuple #[.pointer none, .int .i64 30])) ∨
       (badMap tl rest L = false ∧ ∃ Y', e = .returned (.tuple #[Y', .int .i64 0]) ∧ IsRef w.heap.size w' Y' (toOf tl rest) (normOf (toOf tl rest) (L.map (remap tl))) ∧ ∀ r, clsOf (normOf (toOf tl rest) (L.map (remap tl))) (toOf tl rest) r = clsOf (L.map (remap tl)) (toOf tl rest) r)) := by
  obtain ⟨i0, hi0, hz0, hz1, hz2⟩ := info_parts info32p
  obtain ⟨Y, lv, rfl, hY, -, hrow, hnf, hr0⟩ := h
  have hrg := RgRow.of_own hrow
  obtain ⟨p, cap, rfl⟩ := own_slice hrow
  obtain ⟨tp, tcap, rfl⟩ : ∃ p cap, tv = .slice p tl.length cap := by obtain ⟨p, cap, e, _⟩ := ht; exact ⟨p, cap, e⟩
  have HNF := Lib.hid hnf
  clear hrow hnf
  go_enter Try.func30, Try.ntmps30
  go_wp2_with fail
  go_loopw [6] (fun kv W => ∃ (i : Nat), kv = .int .i64 (i : Nat) ∧ i ≤ tl.length ∧ Hid (∀ j (a : j < tl.length), j < i → isCls tl[j] = true) ∧ Ext w W) (fun kv _ => tl.length + 1 - (intOf kv).toNat)
  case atStart => exact ⟨0, rfl, by omega, Lib.hid (fun j _ h => by omega), Ext.refl _⟩
  case round =>
    obtain ⟨i, rfl, hi, hcl, hx⟩ := hrel
    by_cases hlt : i < tl.length
    · obtain ⟨b1, o1, rfl, hc1⟩ := (ht.mono hx).at (by intro e; rw [e] at hlt; simp at hlt)
      have a1 := hc1 i hlt
      obtain ⟨x, hxe⟩ : ∃ x, tl[i] = x := ⟨_, rfl⟩
      rw [hxe] at a1
      have HXE := Lib.hid hxe
      have hd : decide (i < tl.length) = true := decide_eq_true hlt
      have i1 : ((i : Nat) : Int) < (tl.length : Nat) := by omega
      clear hxe hc1
      go_wp2_with fail
      refine (c_rclass x _).mono ?_
      rintro e w1 ⟨rfl, rfl⟩
      obtain ⟨b, hb⟩ : ∃ b, isCls x = b := ⟨_, rfl⟩
      rw [hb]
      have HB := Lib.hid hb
      clear hb
      rcases Bool.eq_false_or_eq_true b with rfl | rfl
      · go_wp2_with fail
        refine ⟨⟨i + 1, by simp, by omega, Lib.hid (fun j a h => ?_), hx⟩, by simp [intOf]; omega⟩
        rcases Nat.lt_succ_iff_lt_or_eq.1 h with h | h
        · exact hcl.out j a h
        · subst h
          rw [HXE.out]
          exact HB.out
      · have HBAD := Lib.hid (show badMap tl rest L = true by
          have : tl.any (fun c => !isCls c) = true := List.any_eq_true.2 ⟨tl[i], List.getElem_mem hlt, by rw [HXE.out, HB.out]; rfl⟩
          unfold badMap
          rw [this]
          rfl)
        go_wp2_with fail
        exact bodyPost_ret (v := .tuple #[.pointer none, .int .i64 30]) (by simp [results, Try.results30, go_sem]) rfl ⟨hx, .inl ⟨HBAD.out, rfl⟩⟩
    · have hd : decide (i < tl.length) = false := decide_eq_false hlt
      have hb1 : tl.any (fun c => !isCls c) = false := by
        rw [List.any_eq_false]
        intro c hc
        obtain ⟨j, hj, rfl⟩ := List.mem_iff_getElem.1 hc
        have := hcl.out j hj (by omega)
        simp [this]
      have HB1 := Lib.hid hb1
      have hYb := hx.blk hY
      have q0 := cell_blk hYb 0
      have q1 := cell_blk hYb 1
      simp only [List.getElem?_toArray, List.getElem?_cons_succ, List.getElem?_cons_zero] at q0 q1
      clear hb1 hYb
      by_cases h2 : ((tl.length : Nat) : Int) ≤ rest
      · have HBAD := Lib.hid (show badMap tl rest L = true by unfold badMap; rw [HB1.out, decide_eq_true h2]; rfl)
        have hd2 : decide (((tl.length : Nat) : Int) ≤ rest) = true := decide_eq_true h2
        go_wp2_with fail
        exact bodyPost_ret (v := .tuple #[.pointer none, .int .i64 30]) (by simp [results, Try.results30, go_sem]) rfl ⟨hx, .inl ⟨HBAD.out, rfl⟩⟩
      · have hd2 : decide (((tl.length : Nat) : Int) ≤ rest) = false := decide_eq_false h2
        go_wp2_with fail
        go_loopw [7, 8] (fun ov kv W => ∃ (i : Nat), kv = .int .i64 (i : Nat) ∧ i ≤ L.length ∧ Hid (∀ j (a : j < L.length), j < i → L[j].cl < (tl.length : Nat)) ∧ W.ownsRow w.heap.size 32 3 ov i (rgCells ((L.take i).map (remap tl))) ∧ Ext w W) (fun _ kv _ => L.length + 1 - (intOf kv).toNat)
        case atStart => exact ⟨0, rfl, by omega, Lib.hid (fun j _ h => by omega), World.ownsRow_nil _ _ _ _, hx⟩
        case round =>
          clear hx q0 q1
          obtain ⟨i, rfl, hi, hcl, hrow, hx⟩ := hrel
          obtain ⟨po, co, rfl⟩ := own_slice hrow
          have hYb := hx.blk hY
          have q0 := cell_blk hYb 0
          have q1 := cell_blk hYb 1
          simp only [List.getElem?_toArray, List.getElem?_cons_succ, List.getElem?_cons_zero] at q0 q1
          clear hYb
          by_cases hlt : i < L.length
          · obtain ⟨b1, o1, rfl, hc1⟩ := (hrg.mono hx).at (by intro e; rw [e] at hlt; simp at hlt)
            obtain ⟨a1, a2, a3⟩ := hc1 i hlt
            have hok := HNF.out.at hlt
            have htk := List.take_succ_eq_append_getElem hlt
            obtain ⟨b3, o3, e3, hc3⟩ := hrg.at (by intro e; rw [e] at hlt; simp at hlt)
            cases e3
            have hb1 : b1 < w.heap.size := World.block_lt_of_cell? _ _ (hc3 i hlt).1
            have hYs : Y < w.heap.size := blk_lt hY
            obtain ⟨x, hxe⟩ : ∃ x, L[i] = x := ⟨_, rfl⟩
            rw [hxe] at a1 a2 a3 hok htk
            have HXE := Lib.hid hxe
            have HTK := Lib.hid htk
            have hd : decide (i < L.length) = true := decide_eq_true hlt
            have j1 : ((i : Nat) : Int) < (L.length : Nat) := by omega
            obtain ⟨k1', k2', k3', k4', k5'⟩ := hok
            clear hxe hc1 hc3 htk
            by_cases hfar : ((tl.length : Nat) : Int) ≤ x.cl
            · have hd3 : decide (((tl.length : Nat) : Int) ≤ x.cl) = true := decide_eq_true hfar
              have HBAD := Lib.hid (show badMap tl rest L = true by
                have : L.any (fun x => decide (((tl.length : Nat) : Int) ≤ x.cl)) = true := List.any_eq_true.2 ⟨L[i], List.getElem_mem hlt, by rw [HXE.out]; exact hd3⟩
                unfold badMap
                rw [this]
                simp)
              go_wp2_with fail
              exact bodyPost_ret (v := .tuple #[.pointer none, .int .i64 30]) (by simp [results, Try.results30, go_sem]) rfl ⟨hx, .inl ⟨HBAD.out, rfl⟩⟩
            · have hd3 : decide (((tl.length : Nat) : Int) ≤ x.cl) = false := decide_eq_false hfar
              obtain ⟨k, hk⟩ : ∃ k : Nat, x.cl = (k : Nat) := ⟨x.cl.toNat, by omega⟩
              have hkl : k < tl.length := by omega
              have hkI : ((k : Nat) : Int) < (tl.length : Nat) := by omega
              obtain ⟨b2, o2, rfl, hc2⟩ := (ht.mono hx).at (by intro e; rw [e] at hkl; simp at hkl)
              obtain ⟨b4, o4, e4, hc4⟩ := ht.at (by intro e; rw [e] at hkl; simp at hkl)
              cases e4
              have hb2 : b2 < w.heap.size := World.block_lt_of_cell? _ _ (hc4 k hkl)
              have d1 := hc2 k hkl
              obtain ⟨y, hy⟩ : ∃ y, toOf tl x.cl = y := ⟨_, rfl⟩
              have hyk : tl[k] = y := by rw [← hy, hk]; simp [toOf, hkl]
              rw [hyk] at d1
              rw [hk] at a3
              have HY := Lib.hid hy
              have HK := Lib.hid hk
              have HP := Lib.hid (show ∀ j (a : j < L.length), j < i + 1 → L[j].cl < (tl.length : Nat) from fun j a h => by
                rcases Nat.lt_succ_iff_lt_or_eq.1 h with h | h
                · exact hcl.out j a h
                · subst h
                  rw [HXE.out]
                  omega)
              have y0 : ∀ w', EOn (fun a => a.block < w.heap.size) wr w' → w'.cell? ⟨Y, 0, none⟩ = _ := fun w' hx => hx.cell hYs q0
              have y2 : ∀ w', EOn (fun a => a.block < w.heap.size) wr w' → w'.cell? ⟨b1, o1 + i * 3, none⟩ = _ := fun w' hx => hx.cell hb1 a1
              have y3 : ∀ w', EOn (fun a => a.block < w.heap.size) wr w' → w'.cell? ⟨b1, o1 + i * 3 + 1, none⟩ = _ := fun w' hx => hx.cell hb1 a2
              have y4 : ∀ w', EOn (fun a => a.block < w.heap.size) wr w' → w'.cell? ⟨b1, o1 + i * 3 + 2, none⟩ = _ := fun w' hx => hx.cell hb1 a3
              have y5 : ∀ w', EOn (fun a => a.block < w.heap.size) wr w' → w'.cell? ⟨b2, o2 + k, none⟩ = _ := fun w' hx => hx.cell hb2 d1
              clear hc2 hc4 hyk hy hk
              go_wp2_with fail
              refine wp_lex ((fun a => a.block < w.heap.size)) [true, true, true, true, true, true, true, true, true, true, true, true, true, true, true, true, true, true, true, true, true, true, true, true, true, true, true, true, true, false, false] (by kernel_rfl) (by kernel_rfl) ?_
              repeat first
                | refine wpG_move (by rfl) (by simp only [Act.eval, Array.getD_eq_getD_getElem?, List.getElem?_toArray, List.getElem?_cons_succ, List.getElem?_cons_zero, Option.getD_some]; try rfl) (by simp only [Act.put, List.setIfInBounds_toArray, List.set_cons_succ, List.set_cons_zero]; rfl) ?_
                | refine wpG_assign (by rfl) (by simp only [Act.eval, Array.getD_eq_getD_getElem?, List.getElem?_toArray, List.getElem?_cons_succ, List.getElem?_cons_zero, Option.getD_some]; try rfl) (by simp only [Act.put, List.setIfInBounds_toArray, List.set_cons_succ, List.set_cons_zero]; rfl) ?_
                | refine wpG_val (by rfl) (fun w' hx => (by go_simp; first | (go_bits; first | exact rfl | exact ⟨by omega, rfl⟩) | exact rfl | exact (if_neg (by omega)).trans rfl | exact ⟨by omega, rfl⟩)) (by simp only [Act.put, List.setIfInBounds_toArray, List.set_cons_succ, List.set_cons_zero]; rfl) ?_
                | refine wpG_no (by rfl) (by simp only [Act.put, List.setIfInBounds_toArray, List.set_cons_succ, List.set_cons_zero]; rfl) ?_
              refine wpG_do (by rfl) (fun w3 hx3 K hK => ?_)
              clear y0 y2 y3 y4 y5 q0 q1 a1 a2 a3 d1
              go_wp2_with fail
              refine ⟨EOn.of_ext ((Ext.refl w3).alloc _), ?_⟩
              refine wpG_do (by rfl) (fun w4 hx4 K hK => ?_)
              have hxr4 : Ext wr w4 := (hx3.alloc _).trans hx4
              have hnew := hx4.blk (World.alloc_heap_new w3 (.cells #[.int .i32 x.lo, .int .i32 x.hi, .int .i64 y] 32))
              have hrow4 := ownsRow_ext hrow hxr4
              have hxw4 := Ext.trans hx hxr4
              refine wp_append_own w4 (.tmp 49) (.tmp 78) 25 rfl w.heap.size 32 i0 (.agg #[.int .i32 0, .int .i32 0, .int .i64 0]) 3 16 Try.underlying25 hi0 hz0 hz1 hz2 rfl (by decide)
                _ i (rgCells ((L.take i).map (remap tl))) rfl hrow4 ⟨w3.heap.size, 0, none⟩ 1 1 [.int .i32 x.lo, .int .i32 x.hi, .int .i64 y] rfl rfl (World.news_of_block hnew) (by intro u hu; simp at hu; rcases hu with rfl | rfl | rfl <;> rfl) (by unfold maxLen; omega) (by omega) hxw4.sz ?_
              intro v' w5 hown' hgrow _
              have hbl5 : Ext w w5 := Below.grown hxw4 hgrow hxw4.sz (fun k e => (hrow4.lt k e).1)
              refine hK _ _ ⟨⟨hgrow.size, fun a ha hb => World.cell?_of_block (hgrow.block a.block hb (fun e => by have := (hrow4.lt a.block e.symm).1; have ha' : a.block < w.heap.size := ha; omega))⟩, ?_⟩
              have e : rgCells ((L.take (i + 1)).map (remap tl)) = rgCells ((L.take i).map (remap tl)) ++ [.int .i32 x.lo, .int .i32 x.hi, .int .i64 y] := by rw [HTK.out, List.map_append, rgCells_append, ← HY.out]; rfl
              rw [← e] at hown'
              clear e hgrow hrow4 hnew hxr4 hx4 hx3 hrow hK hxw4
              refine wpG_end (fun w6 hx6 => ?_)
              have hrow6 := ownsRow_ext hown' hx6
              have hxw6 := Ext.trans hbl5 hx6
              clear hown' hx6 hbl5
              go_wp2_with fail
              refine gQ_normal ?_
              go_wp2_with fail
              go_roundw
              case rel => exact ⟨i + 1, by simp, by omega, HP, hrow6, hxw6⟩
              case measure => simp [intOf]; omega
          · have hd : decide (i < L.length) = false := decide_eq_false hlt
            have hiL : i = L.length := by omega
            subst hiL
            rw [List.take_length] at hrow
            have hb3 : L.any (fun x => decide (((tl.length : Nat) : Int) ≤ x.cl)) = false := by
              rw [List.any_eq_false]
              intro x hx
              obtain ⟨j, hj, rfl⟩ := List.mem_iff_getElem.1 hx
              have := hcl.out j hj hj
              simp
              omega
            have HBAD := Lib.hid (show badMap tl rest L = false by unfold badMap; rw [HB1.out, decide_eq_false (show ¬ ((tl.length : Nat) : Int) ≤ rest by omega), hb3]; rfl)
            obtain ⟨rk, hrk⟩ : ∃ k : Nat, rest = (k : Nat) := ⟨rest.toNat, by omega⟩
            have hrl : rk < tl.length := by omega
            have hrI : ((rk : Nat) : Int) < (tl.length : Nat) := by omega
            obtain ⟨nr, hnr⟩ : ∃ y, toOf tl rest = y := ⟨_, rfl⟩
            have hrv : tl[rk] = nr := by rw [← hnr, hrk]; simp [toOf, hrl]
            have hcls : ∀ c ∈ tl, 0 ≤ c ∧ c ≤ 255 := fun c hc => by
              have := HB1.out
              rw [List.any_eq_false] at this
              have := this c hc
              simpa [isCls] using this
            have hnr0 := hcls _ (List.getElem_mem hrl)
            rw [hrv] at hnr0
            obtain ⟨b2, o2, rfl, hc2⟩ := (ht.mono hx).at (by intro e; rw [e] at hrl; simp at hrl)
            have d1 := hc2 rk hrl
            rw [hrv] at d1
            rw [hrk] at q1
            have hrise : Rise (L.map (remap tl)) := rise_map HNF.out.rise fun x hx => by
              obtain ⟨j, hj, rfl⟩ := List.mem_iff_getElem.1 hx
              have h3 := hcl.out j hj hj
              have h5 := (HNF.out.at hj).2.2.2
              have h4 : L[j].cl.toNat < tl.length := by omega
              have : toOf tl L[j].cl = tl[L[j].cl.toNat] := by simp [toOf, h4]
              show 0 ≤ toOf tl L[j].cl ∧ toOf tl L[j].cl ≤ 255
              rw [this]
              exact hcls _ (List.getElem_mem h4)
            have HRISE := Lib.hid hrise
            have HNR := Lib.hid hnr
            have hrg2 : RgRow wr (.slice po L.length co) (L.map (remap tl)) := RgRow.of_own (by rw [List.length_map]; exact hrow)
            obtain ⟨n1, n2, n3⟩ := normOf_spec (rest := nr) hrise
            have N1 := Lib.hid n1
            have N2 := Lib.hid n2
            clear hrise hc2 hrv hrow hnr n1 n2 n3 hcls hb3
            go_wp2_with fail
            refine (c_normal _ (L.map (remap tl)) nr _ hrg2 HRISE.out (by rw [List.length_map]; omega)).mono ?_
            rintro e w3 ⟨v3, rfl, hrow3, hx3⟩
            obtain ⟨p3, cap3, rfl⟩ := own_slice hrow3
            have hx13 := Ext.trans hx hx3
            have hYn := World.alloc_heap_new w3 (.cells #[.slice p3 (normOf nr (L.map (remap tl))).length cap3, .int .i64 nr] 88)
            have hrY := own_lower (ownsRow_ext hrow3 ((Ext.refl w3).alloc (.cells #[.slice p3 (normOf nr (L.map (remap tl))).length cap3, .int .i64 nr] 88))) (n₀ := w.heap.size) hx.sz
            clear hrow3 hrg2 hx hx3
            go_wp2_with fail
            exact bodyPost_ret (v := .tuple #[.pointer (some ⟨w3.heap.size, 0, none⟩), .int .i64 0]) (by simp [results, Try.results30, go_sem]) rfl ⟨hx13.alloc _, .inr ⟨HBAD.out, .pointer (some ⟨w3.heap.size, 0, none⟩), rfl, by rw [HNR.out]; exact ⟨⟨w3.heap.size, _, rfl, hYn, hx13.sz, hrY, N1.out, hnr0⟩, N2.out⟩⟩⟩
end Go.Proofs.Ytbbemipidkhmfaa
