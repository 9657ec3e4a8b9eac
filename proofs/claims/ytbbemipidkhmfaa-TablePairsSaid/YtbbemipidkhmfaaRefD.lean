/-
  The document's Build.
-/
import Derived.Test.YtbbemipidkhmfaaRefC
namespace Go.Proofs.Ytbbemipidkhmfaa
open Go.RowKit Go.Maps Go.Shelf

/-- The document's table in memory, at n and beyond. -/
def IsRef (n : Nat) (W : World) (v : Value) (rest : Int) (L : List Rng) : Prop := ∃ Y lv, v = .pointer (some ⟨Y, 0, none⟩) ∧ W.heap[Y]? = some (.cells #[lv, .int .i64 rest] 88) ∧ n ≤ Y ∧ W.ownsRow n 32 3 lv L.length (rgCells L) ∧ NF rest L ∧ (0 ≤ rest ∧ rest ≤ 255)
theorem IsRef.ext {n : Nat} {W W' : World} {v : Value} {rest : Int} {L : List Rng} (h : IsRef n W v rest L) (hx : Ext W W') : IsRef n W' v rest L := by
  obtain ⟨Y, lv, e, h1, h2, h3, h4, h5⟩ := h
  exact ⟨Y, lv, e, hx.blk h1, h2, ownsRow_ext h3 hx, h4, h5⟩

set_option maxRecDepth 100000 in
set_option maxHeartbeats 8000000 in
theorem c_RBuild (v : Value) (l : List Rng) (rest : Int) (w : World) (h : RgRow w v l) :
    Calls Try.prog 18 #[v, .int .i64 rest] w fun e w' => Ext w w' ∧
      ((checkOf l rest).1 ≠ 0 ∧ e = .returned (.tuple #[.pointer none, .int .i64 (checkOf l rest).1, .int .i64 (checkOf l rest).2]) ∨
       (checkOf l rest).1 = 0 ∧ ∃ Y L, e = .returned (.tuple #[Y, .int .i64 0, .int .i64 0]) ∧ IsRef w.heap.size w' Y rest L ∧ ∀ r, clsOf L rest r = clsOf l rest r) := by
  obtain ⟨p, cap, rfl⟩ : ∃ p cap, v = .slice p l.length cap := by obtain ⟨p, cap, e, _⟩ := h; exact ⟨p, cap, e⟩
  obtain ⟨cb, hcb⟩ : ∃ cb, isCls rest = cb := ⟨_, rfl⟩
  have HCB := Lib.hid hcb
  obtain ⟨⟨e1, i1⟩, hce⟩ : ∃ c, checkOf l rest = c := ⟨_, rfl⟩
  have HCE := Lib.hid hce
  rw [hce]
  clear hce
  go_enter Try.func18, Try.ntmps18
  go_wp2_with fail
  refine (c_rclass rest w).mono ?_
  rintro e w1 ⟨rfl, rfl⟩
  rw [hcb]
  clear hcb
  rcases Bool.eq_false_or_eq_true cb with rfl | rfl
  · by_cases hlen : 4096 < l.length
    · have hd0 : decide (4096 < l.length) = true := decide_eq_true hlen
      have hq : checkOf l rest = (6, 0) := by rw [checkOf, if_neg (by rw [HCB.out]; simp), if_pos hlen]
      rw [HCE.out] at hq
      obtain ⟨rfl, rfl⟩ := Prod.mk.inj hq
      clear hq
      have hI : (4096 : Int) < (l.length : Nat) := by omega
      clear hlen
      go_wp2_with fail
      exact bodyPost_ret (v := .tuple #[.pointer none, .int .i64 6, .int .i64 0]) (by simp [results, Try.results18, go_sem]) rfl ⟨Ext.refl _, .inl ⟨by simp, rfl⟩⟩
    · have hd0 : decide (4096 < l.length) = false := decide_eq_false hlen
      have hq : checkOf l rest = checkGo [] l 0 := by rw [checkOf, if_neg (by rw [HCB.out]; simp), if_neg hlen]
      have HQ := Lib.hid (hq.symm.trans HCE.out)
      clear hq
      have hI : ¬ (4096 : Int) < (l.length : Nat) := by omega
      go_wp2_with fail
      go_loopw [7] (fun k W => ∃ i : Nat, k = .int .i64 (i : Nat) ∧ i ≤ l.length ∧ Hid (checkGo (l.take i) (l.drop i) i = checkGo [] l 0) ∧ Ext w1 W) (fun k _ => l.length + 1 - (intOf k).toNat)
      case atStart => exact ⟨0, rfl, by omega, Lib.hid rfl, Ext.refl _⟩
      case round =>
        obtain ⟨i, rfl, hi, hgo, hx⟩ := hrel
        by_cases hlt : i < l.length
        · obtain ⟨b1, o1, rfl, hc1⟩ := (h.mono hx).at (by intro e; rw [e] at hlt; simp at hlt)
          obtain ⟨a1, a2, a3⟩ := hc1 i hlt
          have hdr := List.drop_eq_getElem_cons hlt
          have htk1 := List.take_succ_eq_append_getElem hlt
          obtain ⟨x, hxe⟩ : ∃ x, l[i] = x := ⟨_, rfl⟩
          rw [hxe] at a1 a2 a3 hdr htk1
          have HDR := Lib.hid hdr
          have HTK := Lib.hid htk1
          have HXE := Lib.hid hxe
          have hd : decide (i < l.length) = true := decide_eq_true hlt
          have j1 : ((i : Nat) : Int) < (l.length : Nat) := by omega
          clear hxe hc1 hdr htk1
          go_wp2_with fail
          refine (c_right x _).mono ?_
          rintro e w2 ⟨rfl, hx2⟩
          obtain ⟨xb, hxb⟩ : ∃ xb, okR x = xb := ⟨_, rfl⟩
          have HOK := Lib.hid hxb
          rw [hxb]
          clear hxb
          rcases Bool.eq_false_or_eq_true xb with rfl | rfl
          · have hx12 := Ext.trans hx hx2
            clear hx hx2 a1 a2 a3
            go_wp2_with fail
            go_loopw [8] (fun k W => ∃ j : Nat, k = .int .i64 (j : Nat) ∧ j ≤ i ∧ Hid (∀ q (a : q < l.length), q < j → hits x l[q] = false) ∧ Ext w1 W) (fun k _ => i + 1 - (intOf k).toNat)
            case atStart => exact ⟨0, rfl, by omega, Lib.hid (fun q a h => by omega), hx12⟩
            case round =>
              obtain ⟨j, rfl, hji, hno, hx⟩ := hrel
              by_cases hjlt : j < i
              · obtain ⟨b2, o2, e, hc1⟩ := (h.mono hx).at (by intro e; rw [e] at hlt; simp at hlt)
                cases e
                obtain ⟨a1, a2, a3⟩ := hc1 i hlt
                obtain ⟨c1, c2, c3⟩ := hc1 j (by omega)
                obtain ⟨y, hye⟩ : ∃ y, l[j]'(by omega) = y := ⟨_, rfl⟩
                rw [HXE.out] at a1 a2 a3
                rw [hye] at c1 c2 c3
                have HYE := Lib.hid hye
                have k1 : ∀ w', EOn (fun _ => True) wr w' → w'.cell? ⟨b1, o1 + i * 3, none⟩ = _ := fun w' hx => hx.cell trivial a1
                have k2 : ∀ w', EOn (fun _ => True) wr w' → w'.cell? ⟨b1, o1 + i * 3 + 1, none⟩ = _ := fun w' hx => hx.cell trivial a2
                have k4 : ∀ w', EOn (fun _ => True) wr w' → w'.cell? ⟨b1, o1 + j * 3, none⟩ = _ := fun w' hx => hx.cell trivial c1
                have k5 : ∀ w', EOn (fun _ => True) wr w' → w'.cell? ⟨b1, o1 + j * 3 + 1, none⟩ = _ := fun w' hx => hx.cell trivial c2
                have hdj : decide (j < i) = true := decide_eq_true hjlt
                have j2 : ((j : Nat) : Int) < (i : Nat) := by omega
                have j3 : ((j : Nat) : Int) < (l.length : Nat) := by omega
                clear hc1 hye a1 a2 a3 c1 c2 c3
                by_cases t1 : y.lo ≤ x.hi
                · have ht1 : decide (y.lo ≤ x.hi) = true := decide_eq_true t1
                  by_cases t2 : x.lo ≤ y.hi
                  · have ht2 : decide (x.lo ≤ y.hi) = true := decide_eq_true t2
                    have hany : (l.take i).any (hits x) = true := List.any_eq_true.2 ⟨y, List.mem_iff_getElem.2 ⟨j, by rw [List.length_take]; omega, by rw [List.getElem_take, HYE.out]⟩, by simp [hits, t1, t2]⟩
                    have hq : (e1, i1) = (8, (i : Int)) := by rw [← HQ.out, ← hgo.out, HDR.out, checkGo, if_neg (by rw [HOK.out]; simp), if_pos hany]
                    obtain ⟨rfl, rfl⟩ := Prod.mk.inj hq
                    clear hq hany
                    go_wp2_with fail
                    refine wp_lex (fun _ => True) [true, true, true, true, true, true, true, true, true, true, true, true, true, true, true, true, true, true, true, true, true, true, true, true] (by kernel_rfl) (by kernel_rfl) ?_
                    repeat first
                      | refine wpG_move (by rfl) (by simp only [Act.eval, Array.getD_eq_getD_getElem?, List.getElem?_toArray, List.getElem?_cons_succ, List.getElem?_cons_zero, Option.getD_some]; try rfl) (by simp only [Act.put, List.setIfInBounds_toArray, List.set_cons_succ, List.set_cons_zero]; rfl) ?_
                      | refine wpG_assign (by rfl) (by simp only [Act.eval, Array.getD_eq_getD_getElem?, List.getElem?_toArray, List.getElem?_cons_succ, List.getElem?_cons_zero, Option.getD_some]; try rfl) (by simp only [Act.put, List.setIfInBounds_toArray, List.set_cons_succ, List.set_cons_zero]; rfl) ?_
                      | refine wpG_val (by rfl) (fun w' hx => (by go_simp; first | (go_bits; first | exact rfl | exact ⟨by omega, rfl⟩) | exact rfl | exact (if_neg (by omega)).trans rfl | exact ⟨by omega, rfl⟩)) (by simp only [Act.put, List.setIfInBounds_toArray, List.set_cons_succ, List.set_cons_zero]; rfl) ?_
                      | refine wpG_no (by rfl) (by simp only [Act.put, List.setIfInBounds_toArray, List.set_cons_succ, List.set_cons_zero]; rfl) ?_
                    refine wpG_end (fun w5 hx5 => wpList_nil (gQ_normal ?_))
                    go_wp2_with fail
                    exact bodyPost_ret (v := .tuple #[.pointer none, .int .i64 8, .int .i64 (i : Nat)]) (by simp [results, Try.results18, go_sem]) rfl ⟨Ext.trans hx hx5, .inl ⟨by simp, rfl⟩⟩
                  · have ht2 : decide (x.lo ≤ y.hi) = false := decide_eq_false t2
                    have hn : hits x y = false := by simp [hits, t2]
                    have HN := Lib.hid hn
                    clear hn
                    go_wp2_with fail
                    refine wp_lex (fun _ => True) [true, true, true, true, true, true, true, true, true, true, true, true, true, true, true, true, true, true, true, true, true, true, true, true] (by kernel_rfl) (by kernel_rfl) ?_
                    repeat first
                      | refine wpG_move (by rfl) (by simp only [Act.eval, Array.getD_eq_getD_getElem?, List.getElem?_toArray, List.getElem?_cons_succ, List.getElem?_cons_zero, Option.getD_some]; try rfl) (by simp only [Act.put, List.setIfInBounds_toArray, List.set_cons_succ, List.set_cons_zero]; rfl) ?_
                      | refine wpG_assign (by rfl) (by simp only [Act.eval, Array.getD_eq_getD_getElem?, List.getElem?_toArray, List.getElem?_cons_succ, List.getElem?_cons_zero, Option.getD_some]; try rfl) (by simp only [Act.put, List.setIfInBounds_toArray, List.set_cons_succ, List.set_cons_zero]; rfl) ?_
                      | refine wpG_val (by rfl) (fun w' hx => (by go_simp; first | (go_bits; first | exact rfl | exact ⟨by omega, rfl⟩) | exact rfl | exact (if_neg (by omega)).trans rfl | exact ⟨by omega, rfl⟩)) (by simp only [Act.put, List.setIfInBounds_toArray, List.set_cons_succ, List.set_cons_zero]; rfl) ?_
                      | refine wpG_no (by rfl) (by simp only [Act.put, List.setIfInBounds_toArray, List.set_cons_succ, List.set_cons_zero]; rfl) ?_
                    refine wpG_end (fun w5 hx5 => wpList_nil (gQ_normal ?_))
                    go_wp2_with fail
                    go_roundw
                    case rel =>
                      refine ⟨j + 1, by simp, by omega, Lib.hid (fun q a hq => ?_), Ext.trans hx hx5⟩
                      rcases Nat.lt_succ_iff_lt_or_eq.1 hq with hq | hq
                      · exact hno.out q a hq
                      · subst hq
                        rw [HYE.out]
                        exact HN.out
                    case measure => simp [intOf]; omega
                · have ht1 : decide (y.lo ≤ x.hi) = false := decide_eq_false t1
                  have hn : hits x y = false := by simp [hits, t1]
                  have HN := Lib.hid hn
                  clear hn
                  go_wp2_with fail
                  refine wp_lex (fun _ => True) [true, true, true, true, true, true, true, true, true, true, true, true, true, true, true, true, true, true, true, true, true, true, true, true] (by kernel_rfl) (by kernel_rfl) ?_
                  repeat first
                    | refine wpG_move (by rfl) (by simp only [Act.eval, Array.getD_eq_getD_getElem?, List.getElem?_toArray, List.getElem?_cons_succ, List.getElem?_cons_zero, Option.getD_some]; try rfl) (by simp only [Act.put, List.setIfInBounds_toArray, List.set_cons_succ, List.set_cons_zero]; rfl) ?_
                    | refine wpG_assign (by rfl) (by simp only [Act.eval, Array.getD_eq_getD_getElem?, List.getElem?_toArray, List.getElem?_cons_succ, List.getElem?_cons_zero, Option.getD_some]; try rfl) (by simp only [Act.put, List.setIfInBounds_toArray, List.set_cons_succ, List.set_cons_zero]; rfl) ?_
                    | refine wpG_val (by rfl) (fun w' hx => (by go_simp; first | (go_bits; first | exact rfl | exact ⟨by omega, rfl⟩) | exact rfl | exact (if_neg (by omega)).trans rfl | exact ⟨by omega, rfl⟩)) (by simp only [Act.put, List.setIfInBounds_toArray, List.set_cons_succ, List.set_cons_zero]; rfl) ?_
                    | refine wpG_no (by rfl) (by simp only [Act.put, List.setIfInBounds_toArray, List.set_cons_succ, List.set_cons_zero]; rfl) ?_
                  refine wpG_end (fun w5 hx5 => wpList_nil (gQ_normal ?_))
                  go_wp2_with fail
                  go_roundw
                  case rel =>
                    refine ⟨j + 1, by simp, by omega, Lib.hid (fun q a hq => ?_), Ext.trans hx hx5⟩
                    rcases Nat.lt_succ_iff_lt_or_eq.1 hq with hq | hq
                    · exact hno.out q a hq
                    · subst hq
                      rw [HYE.out]
                      exact HN.out
                  case measure => simp [intOf]; omega
              · have hdj : decide (j < i) = false := decide_eq_false hjlt
                go_wp2_with fail
                go_roundw
                case rel =>
                  refine ⟨i + 1, by simp, by omega, Lib.hid ?_, hx⟩
                  have hany : (l.take i).any (hits x) = false := List.any_eq_false.2 fun z hz => by
                    obtain ⟨q, hq, rfl⟩ := List.mem_iff_getElem.1 hz
                    rw [List.length_take] at hq
                    rw [List.getElem_take, hno.out q (by omega) (by omega)]
                    simp
                  rw [← hgo.out, HTK.out, HDR.out]
                  conv => rhs; rw [checkGo]
                  rw [if_neg (by rw [HOK.out]; simp), if_neg (by rw [hany]; simp)]
                case measure => simp [intOf]; omega
          · have hq : (e1, i1) = (30, (i : Int)) := by rw [← HQ.out, ← hgo.out, HDR.out, checkGo, if_pos HOK.out]
            obtain ⟨rfl, rfl⟩ := Prod.mk.inj hq
            clear hq
            go_wp2_with fail
            exact bodyPost_ret (v := .tuple #[.pointer none, .int .i64 30, .int .i64 (i : Nat)]) (by simp [results, Try.results18, go_sem]) rfl ⟨Ext.trans hx hx2, .inl ⟨by simp, rfl⟩⟩
        · have hd : decide (i < l.length) = false := decide_eq_false hlt
          have hq : (e1, i1) = (0, 0) := by
            rw [← HQ.out, ← hgo.out, List.drop_eq_nil_of_le (by omega)]
            rfl
          obtain ⟨rfl, rfl⟩ := Prod.mk.inj hq
          clear hq
          obtain ⟨hr0, hln, hap, hok⟩ := checkOf_ok (l := l) (rest := rest) (by rw [HCE.out])
          have HAP := Lib.hid hap
          have HOK := Lib.hid hok
          clear hap hok
          go_wp2_with fail
          refine (c_sorted _ l _ (h.mono hx) (by omega)).mono ?_
          rintro e w2 ⟨v2, o, rfl, hp, hs, hrow, hx2⟩
          have hrise : Rise o := rise_of hs ((hp.pairwise_iff (fun h => hits_symm h)).2 HAP.out) fun x hx => HOK.out x (hp.mem_iff.1 hx)
          have hcls := clsOf_perm hp HAP.out rest
          have hol : o.length = l.length := hp.length_eq
          have HCLS := Lib.hid hcls
          have hrg := RgRow.of_own hrow
          clear hcls hs hp hrow
          go_wp2_with fail
          refine (c_normal v2 o rest w2 hrg hrise (by omega)).mono ?_
          rintro e w3 ⟨v3, rfl, hrow3, hx3⟩
          obtain ⟨p3, cap3, rfl⟩ := own_slice hrow3
          obtain ⟨n1, n2, n3⟩ := normOf_spec (rest := rest) hrise
          have N1 := Lib.hid n1
          have N2 := Lib.hid n2
          clear n1 n2 n3 hol
          have hx13 := Ext.trans (Ext.trans hx hx2) hx3
          have hY := World.alloc_heap_new w3 (.cells #[.slice p3 (normOf rest o).length cap3, .int .i64 rest] 88)
          have hrY := own_lower (ownsRow_ext hrow3 ((Ext.refl w3).alloc (.cells #[.slice p3 (normOf rest o).length cap3, .int .i64 rest] 88))) (n₀ := w1.heap.size) (Ext.trans hx hx2).sz
          clear hrow3 hrg hx hx2 hx3
          go_wp2_with fail
          exact bodyPost_ret (v := .tuple #[.pointer (some ⟨w3.heap.size, 0, none⟩), .int .i64 0, .int .i64 0]) (by simp [results, Try.results18, go_sem]) rfl ⟨hx13.alloc _, .pointer (some ⟨w3.heap.size, 0, none⟩), rfl, normOf rest o, ⟨w3.heap.size, _, rfl, hY, hx13.sz, hrY, N1.out, hr0⟩, fun r => by rw [N2.out, HCLS.out]⟩
  · have hq : checkOf l rest = (30, 0) := by rw [checkOf, if_pos HCB.out]
    rw [HCE.out] at hq
    obtain ⟨rfl, rfl⟩ := Prod.mk.inj hq
    clear hq
    go_wp2_with fail
    exact bodyPost_ret (v := .tuple #[.pointer none, .int .i64 30, .int .i64 0]) (by simp [results, Try.results18, go_sem]) rfl ⟨Ext.refl _, .inl ⟨by simp, rfl⟩⟩
end Go.Proofs.Ytbbemipidkhmfaa
