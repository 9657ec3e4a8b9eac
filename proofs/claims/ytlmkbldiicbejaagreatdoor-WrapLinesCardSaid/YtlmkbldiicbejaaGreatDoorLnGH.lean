/-
  The runes of a text: where each begins, its class. Where lines may end: the chances.
-/
import Derived.Test.YtlmkbldiicbejaaGreatDoorLnEF
import Derived.Test.YtlmkbldiicbejaaGreatDoorLnTM
import Derived.Maps.AppendAt
section
namespace Go.Proofs.YtlmkbldiicbejaaGreatDoor
open Go.RowKit Go.Rp Go.Maps Go.Cl Go.Shelf Go.Gr Go.Ln

theorem apart_ne {w : World} {B : Nat} {v u : Value} {k : Nat} {ys : List Value} (hu : w.ownsRow B 3 1 u k ys) (hap : Apart v u) : u.ownBlock = none ∨ u.ownBlock ≠ v.ownBlock := by
  rcases hu.2 with ⟨e, _⟩ | ⟨g, cap, cur, e, _⟩
  · exact .inl (by rw [e]; rfl)
  · refine .inr fun e2 => ?_
    rw [e] at e2
    exact hap g (by rw [← e2]; rfl) (by rw [e]; rfl)
theorem apart_grown {w w1 : World} {B : Nat} {v v' u : Value} {k : Nat} {ys : List Value} (hu : w.ownsRow B 3 1 u k ys) (hap : Apart v u) (hsz : w.heap.size ≤ w1.heap.size) (g4 : v'.ownBlock = v.ownBlock ∨ v'.ownBlock = some w1.heap.size) : Apart v' u := fun j hj hju => by
  rcases g4 with g4 | g4
  · rw [g4] at hj
    exact hap j hj hju
  · rw [g4] at hj
    obtain rfl := Option.some.inj hj
    have := (hu.lt _ hju).2
    omega
/-- A number behind a row of numbers; another row stays. -/
theorem wpList_push2 {ops : Array Oper} {rest : List Oper} {o : Oper} {a : Act} {Q : Exit → Act → World → Prop} (hgd : o.guard = none) (s x : Operand)
    (ho : o.op = .call { callee := .builtin .append, args := #[s, x], argTypes := #[33, 33] })
    {B : Nat} {wr : World} {v u : Value} {n k : Nat} {xs ys : List Value} (hs : a.eval s = v) (hown : wr.ownsRow B 3 1 v n xs) (hu : wr.ownsRow B 3 1 u k ys) (hap : Apart v u) (hB : B ≤ wr.heap.size)
    (z : Int) (nb : Nat) (hnb : nb = wr.heap.size) (hxv : a.eval x = .slice (some ⟨nb, 0, none⟩) 1 1) (hn : n ≤ 100000000)
    (h : ∀ v' w', w'.ownsRow B 3 1 v' (n + 1) (xs ++ [.int .i64 z]) → w'.ownsRow B 3 1 u k ys → Apart v' u → wr.grownBy w' v.ownBlock → wpList Tryz.prog ops Q rest (a.put o.dst v') w') : wpList Tryz.prog ops Q (o :: rest) a (wr.alloc (.cells #[.int .i64 z] 3)) := by
  subst hnb
  obtain ⟨i0, hi0, hz0, hz1, hz3⟩ := info_parts Tryz.infoI
  have hxa := (Ext.refl wr).alloc (.cells #[.int .i64 z] 3)
  have hnew := World.alloc_heap_new wr (.cells #[.int .i64 z] 3)
  have hown1 := ownsRow_ext hown hxa
  have hu1 := ownsRow_ext hu hxa
  refine wpList_append_own_at _ hgd s x 33 ho B 3 i0 (.int .i64 0) 1 8 Tryz.underlying33 hi0 hz0 hz1 hz3 rfl (by decide) v n xs hs hown1 ⟨wr.heap.size, 0, none⟩ 1 1 [.int .i64 z] hxv rfl (World.news_of_block hnew) (by intro u hu; simp at hu; subst hu; rfl) (by unfold maxLen; omega) (by omega) (Nat.le_trans hB hxa.sz) ?_
  intro v' w' g1 g2 _ g4
  exact h v' w' g1 (hu1.kept g2 (apart_ne hu1 hap)) (apart_grown hu1 hap (Nat.le_refl _) g4) ((grown_ext hxa _).trans g2)
set_option maxRecDepth 100000 in
set_option maxHeartbeats 2000000 in
theorem c_scan (s : ByteArray) (w : World) (hT : TabsW w) (hz : s.size ≤ 65536) :
    Calls Tryz.prog 80 #[.string s] w fun e w' => ∃ va vc, e = .returned (.agg #[va, vc]) ∧ NRow w' va (atK s) ∧ NRow w' vc (clK s) ∧ Ext w w' := by
  have HT := Lib.hid hT
  clear hT
  go_enter Tryz.func80, Tryz.ntmps80
  go_wp2_with fail
  have hbb := World.alloc_heap_new w (.cells #[.slice none 0 0, .slice none 0 0] 144)
  have HX0 := Lib.hid ((Ext.refl w).alloc (.cells #[.slice none 0 0, .slice none 0 0] 144))
  have HSZ := Lib.hid (World.size_alloc w (.cells #[.slice none 0 0, .slice none 0 0] 144))
  generalize w.alloc (.cells #[.slice none 0 0, .slice none 0 0] 144) = w0 at hbb HX0 HSZ ⊢
  generalize htb : w.heap.size = tb at hbb HSZ ⊢
  have HN := Lib.hid (c_New textLp.data.toList w0 (HT.out.ext HX0.out) (textB_spec textLp_ok))
  refine calls_arg (v := .string ⟨textLp.data.toList.toArray⟩) (by kernel_rfl) (HN.out.mono ?_)
  rintro e w1 ⟨db, rfl, h1, h2⟩
  have HD := Lib.hid h1
  have HB1 := Lib.hid (h2.blk hbb)
  have HX1 := Lib.hid (HX0.out.trans h2)
  have HS1 := Lib.hid (show tb < w1.heap.size by have := h2.sz; have := HSZ.out; omega)
  clear h1 h2 HN hbb
  go_wp2_with fail
  obtain ⟨A, hA⟩ : ∃ A, w1.heap.size = A := ⟨_, rfl⟩
  have HA := Lib.hid hA
  rw [hA]
  have hb2 : ((w1.alloc (.cells #[.slice none 0 0, .slice none 0 0] 144)).iter s 0).heap[A]? = some (.cells #[.slice none 0 0, .slice none 0 0] 144 (0, 0)) := by
    have := ((Ext.refl (w1.alloc (.cells #[.slice none 0 0, .slice none 0 0] 144))).iter s 0).blk (World.alloc_heap_new w1 _)
    rwa [hA] at this
  have hi2 : ((w1.alloc (.cells #[.slice none 0 0, .slice none 0 0] 144)).iter s 0).heap[A + 1]? = some (.stringIter s 0) := by
    have := World.iter_heap (w1.alloc (.cells #[.slice none 0 0, .slice none 0 0] 144)) s 0
    rwa [World.size_alloc, hA] at this
  have hx2 : Ext w1 ((w1.alloc (.cells #[.slice none 0 0, .slice none 0 0] 144)).iter s 0) := ((Ext.refl w1).alloc _).iter s 0
  generalize (w1.alloc (.cells #[.slice none 0 0, .slice none 0 0] 144)).iter s 0 = w2 at hb2 hi2 hx2 ⊢
  clear hA
  have HB2 := Lib.hid hb2
  have HX2 := Lib.hid hx2
  clear hb2 hx2
  go_loopw [7, 8] (fun _ _ W => ∃ (i pos : Nat) (va vc : Value), W.heap[A + 1]? = some (.stringIter s pos) ∧ Hid (W.heap[A]? = some (.cells #[va, vc] 144 (0, 0))) ∧ Hid (AtM s i pos) ∧ Hid (W.ownsRow (A + 2) 3 1 va i (nW ((atK s).take i))) ∧ Hid (W.ownsRow (A + 2) 3 1 vc i (nW ((clK s).take i))) ∧ Hid (Apart va vc) ∧ Hid (Ext w1 W)) (fun _ _ W => s.size - W.iterPos (A + 1))
  case atStart => exact ⟨0, 0, _, _, hi2, HB2, Lib.hid (AtM.start s), Lib.hid (by simpa [nW] using World.ownsRow_nil _ _ _ _), Lib.hid (by simpa [nW] using World.ownsRow_nil _ _ _ _), Lib.hid (fun j h => by cases h), HX2⟩
  case round =>
    obtain ⟨i, pos, va, vc, hit, HB, HAT, HVA, HVC, HAP, HX⟩ := hrel
    obtain ⟨W, rfl⟩ : ∃ W, W = wr := ⟨_, rfl⟩
    have hpos := iterPos_of hit
    by_cases hlt : pos < s.size
    · have hnx : ∀ ty, (Instr.next (.pointer (some ⟨A + 1, 0, none⟩)) true ty).run Tryz.prog W = _ := fun ty => Lib.run_next_any_at W (A + 1) s pos ty hit hlt
      have HM := Lib.hid (HAT.out.step hlt)
      have hmx := dec_max s pos
      have hd := dec_le s pos hlt
      generalize Utf8.decode s pos = d at hnx HM hmx hd
      obtain ⟨pa, ca, rfl⟩ := own_slice HVA.out
      obtain ⟨pc, cc, rfl⟩ := own_slice HVC.out
      have hx1 : Ext w1 _ := Lib.below_iterAt HX.out (show w1.heap.size ≤ A + 1 by have := HA.out; omega) s (pos + d.2)
      have hit1 := Lib.iterAt_heap W (A + 1) s pos (pos + d.2) hit
      have hbb := (Lib.iterAt_other W (A + 1) A s (pos + d.2) (by omega)).trans HB.out
      have hva1 := ownsRow_iterAtN HVA.out hit s (pos + d.2)
      have hvc1 := ownsRow_iterAtN HVC.out hit s (pos + d.2)
      generalize W.iterAt (A + 1) s (pos + d.2) = W1 at hnx hx1 hit1 hbb hva1 hvc1
      have HS1 := Lib.hid (And.intro hx1 (And.intro hit1 (And.intro hva1 hvc1)))
      have HBB := Lib.hid hbb
      have k0 : W1.cell? ⟨A, 0, none⟩ = some (.slice pa i ca) := (cell_blk hbb 0).trans rfl
      clear hx1 hit1 hva1 hvc1 hbb HB HX HVA HVC
      go_wp2_with (at_builtin; refine Hid.out ?_)
      refine wpList_push2 rfl (.tmp 21) (.tmp 23) rfl (v := .slice pa i ca) rfl HS1.out.2.2.1 HS1.out.2.2.2 HAP.out (by have := blk_lt HS1.out.2.1; omega) _ _ rfl rfl (by have := HAT.out.le; have := mk_len s; omega) ?_
      intro v' w3 g1 g2 g3 g4
      obtain ⟨p3, c3, rfl⟩ := own_slice g1
      have hb3 := (g4.block A (blk_lt HBB.out) (fun e => by have := (HS1.out.2.2.1.lt A e.symm).1; omega)).trans HBB.out
      have hit3 := (g4.block (A + 1) (blk_lt HS1.out.2.1) (fun e => by have := (HS1.out.2.2.1.lt (A + 1) e.symm).1; omega)).trans HS1.out.2.1
      have HS3 := Lib.hid (And.intro (Below.grown HS1.out.1 g4 HS1.out.1.sz (fun k e => by have := (HS1.out.2.2.1.lt k e).1; rw [HA.out]; omega) : Ext w1 w3) (And.intro hit3 (And.intro g1 (And.intro g2 g3))))
      have HB3 := Lib.hid hb3
      have k3 : w3.cell? ⟨A, 0, none⟩ = some (.slice pa i ca) := (cell_blk hb3 0).trans rfl
      have f3 := frz_blk hb3 0
      clear g1 g2 g3 g4 hb3 hit3 k0
      go_wp2_with fail
      have hg := grown_cell w3 A 0 (.slice p3 (i + 1) c3)
      have hb4 : (w3.setCell ⟨A, 0, none⟩ (.slice p3 (i + 1) c3)).heap[A]? = some (.cells #[.slice p3 (i + 1) c3, .slice pc i cc] 144 (0, 0)) := by
        have := set_blk HB3.out 0 (.slice p3 (i + 1) c3)
        simpa using this
      have hit4 := (hg.block (A + 1) (blk_lt HS3.out.2.1) (fun e => by have := Option.some.inj e; omega)).trans HS3.out.2.1
      have hA0 : ∀ {v : Value} {n : Nat} {xs : List Value}, w3.ownsRow (A + 2) 3 1 v n xs → v.ownBlock = none ∨ v.ownBlock ≠ some A := fun h => .inr (fun e => by have := (h.lt A e).1; omega)
      have hva4 := HS3.out.2.2.1.kept hg (hA0 HS3.out.2.2.1)
      have hvc4 := HS3.out.2.2.2.1.kept hg (hA0 HS3.out.2.2.2.1)
      have hx4 : Ext w1 (w3.setCell ⟨A, 0, none⟩ (.slice p3 (i + 1) c3)) := Below.setCell HS3.out.1 (p := ⟨A, 0, none⟩) (show w1.heap.size ≤ A by have := HA.out; omega) _
      generalize w3.setCell ⟨A, 0, none⟩ (.slice p3 (i + 1) c3) = w4 at hb4 hit4 hva4 hvc4 hx4 ⊢
      have HAP4 := Lib.hid HS3.out.2.2.2.2
      have HS4 := Lib.hid (And.intro hx4 (And.intro hit4 (And.intro hva4 hvc4)))
      have HB4 := Lib.hid hb4
      have s1 : ∀ w', EOn (fun a => a.block ≤ A + 1) w4 w' → w'.cell? ⟨A, 1, none⟩ = some (.slice pc i cc) := fun w' h => h.cell (by show A ≤ A + 1; omega) ((cell_blk HB4.out 1).trans rfl)
      clear hg hb4 hit4 hA0 hva4 hvc4 hx4 k3 f3 HS3 HB3 HS1 HBB
      refine wp_lex (fun a => a.block ≤ A + 1) [true, true, true, true, false, false, false] (by kernel_rfl) (by kernel_rfl) ?_
      repeat first
        | refine wpG_move' ?_
        | refine wpG_assign' ?_
        | refine wpG_val' ?_
        | refine wpG_no' ?_
      clear s1
      refine wpG_do (by rfl) (fun w5 hx5 K hK => ?_)
      go_wp2_with fail
      refine (c_Get db _ rngL d.1 w5 (HD.out.ext (HS4.out.1.trans hx5)) rngL_rise (by have := rngL_len; omega) (by omega) (by omega)).mono ?_
      rintro e w6 ⟨rfl, hx6⟩
      rw [rnN_nat _ hmx]
      have HC6 := Lib.hid (show getR rngL d.1 = clsL d.1 from rfl)
      rw [HC6.out]
      have HX6 := Lib.hid (hx5.trans hx6)
      refine hK _ _ ⟨EOn.of_ext hx6, ?_⟩
      clear hK hx5 hx6
      refine wpG_do (by rfl) (fun w7 hx7 K hK => ?_)
      go_wp2_with fail
      have hnew := World.alloc_heap_new w7 (.cells #[.int .i64 (clsL d.1 : Nat)] 3)
      have HX8 := Lib.hid ((HX6.out.trans hx7).alloc (.cells #[.int .i64 (clsL d.1 : Nat)] 3))
      refine ⟨EOn.of_ext ((Ext.refl w7).alloc _), ?_⟩
      generalize w7.alloc (.cells #[.int .i64 (clsL d.1 : Nat)] 3) = w8 at hnew HX8 ⊢
      generalize w7.heap.size = nb at hnew ⊢
      have HVC8 := Lib.hid (ownsRow_ext HS4.out.2.2.2 HX8.out)
      have HVA8 := Lib.hid (ownsRow_ext HS4.out.2.2.1 HX8.out)
      have HAC := Lib.hid HAP4.out.symm
      clear hx7
      obtain ⟨i0, hi0, hz0, hz1, hz3⟩ := info_parts Tryz.infoI
      refine wpG_push rfl (fun a w h => by obtain ⟨_, _, e, _⟩ := h; cases e) (.tmp 27) (.tmp 31) 33 rfl 3 i0 (.int .i64 0) 1 8 Tryz.underlying33 hi0 hz0 hz1 hz3 rfl (by decide) (v := .slice pc i cc) rfl HVC8.out (by have := HX8.out.sz; have := blk_lt HS4.out.2.1; omega) [.int .i64 (clsL d.1 : Nat)] nb 0 1 1 rfl rfl (fun j hj => by
        match j, hj with
        | 0, _ => exact (cell_blk hnew 0).trans rfl) (by intro u hu; simp at hu; subst hu; rfl) (fun ad hS eq => by
        have h1 := (HVC8.out.lt _ eq).1
        have h2 : ad.block ≤ A + 1 := hS
        omega) (by have := HAT.out.le; have := mk_len s; omega) (by decide) ?_
      intro v' w9 w10 hx9 g1 g2 g4
      obtain ⟨p10, c10, rfl⟩ := own_slice g1
      have hva9 := ownsRow_ext HVA8.out hx9
      have hvc9 := ownsRow_ext HVC8.out hx9
      have HAP10 := Lib.hid (apart_grown HVA8.out HAC.out hx9.sz g4)
      have hva10 := hva9.kept g2 (apart_ne hva9 HAC.out)
      have hX9 := HX8.out.trans hx9
      have hb10 := (g2.block A (blk_lt (hX9.blk HB4.out)) (fun e => by have := (hvc9.lt A e.symm).1; omega)).trans (hX9.blk HB4.out)
      have hit10 := (g2.block (A + 1) (blk_lt (hX9.blk HS4.out.2.1)) (fun e => by have := (hvc9.lt (A + 1) e.symm).1; omega)).trans (hX9.blk HS4.out.2.1)
      have hx10 : Ext w1 w10 := Below.grown (HS4.out.1.trans hX9) g2 (HS4.out.1.trans hX9).sz (fun k e => by have := (hvc9.lt k e).1; rw [HA.out]; omega)
      have HS10 := Lib.hid (And.intro hx10 (And.intro hit10 (And.intro hva10 g1)))
      have HB10 := Lib.hid hb10
      clear hx9 g1 g2 g4 hva9 hvc9 hva10 hX9 hb10 hit10 hx10 hnew
      refine wpG_end (fun w11 hx11 => ?_)
      have hb11 := hx11.blk HB10.out
      have k11 : w11.cell? ⟨A, 1, none⟩ = some (.slice pc i cc) := (cell_blk hb11 1).trans rfl
      have f11 := frz_blk hb11 1
      have HS11 := Lib.hid (And.intro (HS10.out.1.trans hx11) (And.intro (hx11.blk HS10.out.2.1) (And.intro (ownsRow_ext HS10.out.2.2.1 hx11) (ownsRow_ext HS10.out.2.2.2 hx11))))
      have HB11 := Lib.hid hb11
      clear hb11 hx11
      go_wp2_with fail
      refine gQ_normal ?_
      go_wp2_with fail
      have hg := grown_cell w11 A 1 (.slice p10 (i + 1) c10)
      have hb12 : (w11.setCell ⟨A, 1, none⟩ (.slice p10 (i + 1) c10)).heap[A]? = some (.cells #[.slice p3 (i + 1) c3, .slice p10 (i + 1) c10] 144 (0, 0)) := by
        have := set_blk HB11.out 1 (.slice p10 (i + 1) c10)
        simpa using this
      have hit12 := (hg.block (A + 1) (blk_lt HS11.out.2.1) (fun e => by have := Option.some.inj e; omega)).trans HS11.out.2.1
      have hA0 : ∀ {v : Value} {n : Nat} {xs : List Value}, w11.ownsRow (A + 2) 3 1 v n xs → v.ownBlock = none ∨ v.ownBlock ≠ some A := fun h => .inr (fun e => by have := (h.lt A e).1; omega)
      have hva12 := HS11.out.2.2.1.kept hg (hA0 HS11.out.2.2.1)
      have hvc12 := HS11.out.2.2.2.kept hg (hA0 HS11.out.2.2.2)
      have hx12 : Ext w1 (w11.setCell ⟨A, 1, none⟩ (.slice p10 (i + 1) c10)) := Below.setCell HS11.out.1 (p := ⟨A, 1, none⟩) (show w1.heap.size ≤ A by have := HA.out; omega) _
      obtain ⟨hi, hm, ha⟩ := HM.out
      have hia : i < (atK s).length := by rw [atK_len]; exact hi
      have hic : i < (clK s).length := by rw [clK_len]; exact hi
      have ea : nW ((atK s).take (i + 1)) = nW ((atK s).take i) ++ [.int .i64 (pos : Nat)] := by
        rw [List.take_succ_eq_append_getElem hia, nW_app]
        congr 1
        simp [nW, atK, hm]
      have ec : nW ((clK s).take (i + 1)) = nW ((clK s).take i) ++ [.int .i64 (clsL d.1 : Nat)] := by
        rw [List.take_succ_eq_append_getElem hic, nW_app]
        congr 1
        simp [nW, clK, hm]
      refine ⟨⟨i + 1, pos + d.2, _, _, hit12, Lib.hid hb12, Lib.hid ha, Lib.hid ?_, Lib.hid ?_, Lib.hid HAP10.out.symm, Lib.hid hx12⟩, by rw [iterPos_of hit12, hpos]; omega⟩
      · rw [ea]; exact hva12
      · rw [ec]; exact hvc12
    · have hnx : ∀ ty, (Instr.next (.pointer (some ⟨A + 1, 0, none⟩)) true ty).run Tryz.prog W = _ := fun ty => Lib.run_next_end_at W (A + 1) s pos ty hit hlt
      have HE := Lib.hid (HAT.out.stop hlt)
      obtain ⟨pa, ca, rfl⟩ := own_slice HVA.out
      obtain ⟨pc, cc, rfl⟩ := own_slice HVC.out
      have k0 : W.cell? ⟨A, 0, none⟩ = some (.slice pa i ca) := (cell_blk HB.out 0).trans rfl
      have k1 : W.cell? ⟨A, 1, none⟩ = some (.slice pc i cc) := (cell_blk HB.out 1).trans rfl
      have hbt := HX.out.blk HB1.out
      have f0 := frz_blk hbt 0
      have f1 := frz_blk hbt 1
      have t0 := (cell_blk hbt 0).trans rfl
      have t1 := (cell_blk hbt 1).trans rfl
      clear hbt
      go_wp2_with fail
      have hx2 : Ext w W := HX1.out.trans HX.out
      have hw : w.heap.size ≤ tb := by omega
      have hb1 := set_blk (HX.out.blk HB1.out) 0 (.slice pa i ca)
      have hb2 := set_blk hb1 1 (.slice pc i cc)
      have hg1 := grown_cell W tb 0 (.slice pa i ca)
      have hg2 := grown_cell (W.setCell ⟨tb, 0, none⟩ (.slice pa i ca)) tb 1 (.slice pc i cc)
      have hA0 : ∀ {W : World} {v : Value} {n : Nat} {xs : List Value}, W.ownsRow (A + 2) 3 1 v n xs → v.ownBlock = none ∨ v.ownBlock ≠ some tb := fun h => .inr (fun e => by have := (h.lt tb e).1; have := HA.out; have := HS1.out; omega)
      have q1 := HVA.out.kept hg1 (hA0 HVA.out)
      have q2 := q1.kept hg2 (hA0 q1)
      have r1 := HVC.out.kept hg1 (hA0 HVC.out)
      have r2 := r1.kept hg2 (hA0 r1)
      have hx3 : Ext w _ := Below.setCell (Below.setCell hx2 (p := ⟨tb, 0, none⟩) hw (.slice pa i ca)) (p := ⟨tb, 1, none⟩) hw (.slice pc i cc)
      have hl : i = (atK s).length := by rw [atK_len]; exact HE.out
      have hl2 : i = (clK s).length := by rw [clK_len]; exact HE.out
      generalize (W.setCell ⟨tb, 0, none⟩ (.slice pa i ca)).setCell ⟨tb, 1, none⟩ (.slice pc i cc) = W9 at hb2 q2 r2 hx3 ⊢
      have m0 := (cell_blk hb2 0).trans rfl
      have m1 := (cell_blk hb2 1).trans rfl
      refine bodyPost_ret (v := .agg #[.slice pa i ca, .slice pc i cc]) ?_ rfl ⟨_, _, rfl, NRow.of_own (B := A + 2) ?_, NRow.of_own (B := A + 2) ?_, hx3⟩
      · simp only [List.setIfInBounds_toArray, List.set_cons_succ, List.set_cons_zero] at m0 m1
        simp [results, Tryz.results80, go_sem, m0, m1]
      · rw [← hl]
        have := q2
        rw [List.take_of_length_le (by omega)] at this
        exact this
      · rw [← hl2]
        have := r2
        rw [List.take_of_length_le (by omega)] at this
        exact this
end Go.Proofs.YtlmkbldiicbejaaGreatDoor
end

section
namespace Go.Proofs.YtlmkbldiicbejaaGreatDoor
open Go.RowKit Go.Rp Go.Maps Go.Cl Go.Shelf Go.Gr Go.Ln

/-- Chances in cells. -/
def chW (l : List (Nat × Bool)) : List Value := l.flatMap fun x => [.int .i64 (x.1 : Nat), .bool x.2]
theorem chW_app (x y : List (Nat × Bool)) : chW (x ++ y) = chW x ++ chW y := by simp [chW]
theorem Tryz.infoCh : (Tryz.prog.info? 112).map (fun i => (i.zero, i.size, i.bytes)) = some (some (.agg #[.int .i64 0, .bool false]), 2, 16) := by kernel_rfl
set_option maxRecDepth 100000 in
set_option maxHeartbeats 2000000 in
theorem c_Chances (s : ByteArray) (w : World) (hT : TabsW w) (hz : s.size ≤ 65536) :
    Calls Tryz.prog 59 #[.string s] w fun e w' => ∃ v, e = .returned v ∧ w'.ownsRow w.heap.size 112 2 v (chK s).length (chW (chK s)) ∧ Ext w w' := by
  have HSC := Lib.hid (fun W (h : Ext w W) => c_scan s W (hT.ext h) hz)
  have hzI : ((s.size : Nat) : Int) ≤ 65536 := by omega
  clear hT
  go_enter Tryz.func59, Tryz.ntmps59
  go_wp2_with fail
  refine (HSC.out w (Ext.refl w)).mono ?_
  rintro e w1 ⟨va, vc, rfl, hva, hvc, hx1⟩
  have hcle := atK_le s
  have hlc : (clK s).length = (atK s).length := by rw [atK_len, clK_len]
  have HCH := Lib.hid (show chK s = chances (atK s) (clK s) s.size from rfl)
  have HVA := Lib.hid hva
  have HVC := Lib.hid hvc
  have HX1 := Lib.hid hx1
  obtain ⟨pa, ca, rfl, _, _⟩ := hva
  obtain ⟨pc, cc, rfl, _, _⟩ := hvc
  rw [hlc] at HVC ⊢
  obtain ⟨CK, hCK⟩ : ∃ CK, chK s = CK := ⟨_, rfl⟩
  have HCK := Lib.hid hCK
  rw [hCK] at HCH
  obtain ⟨A, hA⟩ : ∃ A, atK s = A := ⟨_, rfl⟩
  obtain ⟨C, hC⟩ : ∃ C, clK s = C := ⟨_, rfl⟩
  rw [hA, hC] at HCH
  rw [hC] at HVC hlc
  rw [hA] at HVA HVC hcle hlc ⊢
  have hAI : ((A.length : Nat) : Int) ≤ 65536 := by omega
  have HLC := Lib.hid hlc
  clear hx1 HSC hA hC hCK hlc
  go_wp2_with fail
  have hb4 := World.alloc_heap_new w1 (.cells #[.slice pa A.length ca, .slice pc A.length cc] 144)
  have hx3 := (Ext.refl w1).alloc (.cells #[.slice pa A.length ca, .slice pc A.length cc] 144)
  generalize w1.alloc (.cells #[.slice pa A.length ca, .slice pc A.length cc] 144) = w3 at hb4 hx3 ⊢
  obtain ⟨tb, htb⟩ : ∃ tb, w1.heap.size = tb := ⟨_, rfl⟩
  rw [htb] at hb4 ⊢
  have HB0 := Lib.hid hb4
  have HX3 := Lib.hid hx3
  have HTB := Lib.hid htb
  replace HVA := Lib.hid (HVA.out.ext hx3)
  replace HVC := Lib.hid (HVC.out.ext hx3)
  obtain ⟨Z, hZ⟩ : ∃ Z, w3.heap.size = Z := ⟨_, rfl⟩
  have HZ := Lib.hid hZ
  clear hb4 hx3 htb hZ
  go_loopw [4, 5] (fun ov iv W => ∃ (i : Nat) (U : List (Nat × Bool)), iv = .int .i64 ((i : Nat) + 1) ∧ i ≤ A.length - 1 ∧ U.length ≤ i ∧ Hid (U = chGo A C i 1) ∧ Hid (W.ownsRow Z 112 2 ov U.length (chW U)) ∧ Hid (Ext w3 W)) (fun _ iv _ => A.length + 2 - (intOf iv).toNat)
  case atStart => exact ⟨0, [], rfl, Nat.zero_le _, Nat.le_refl _, Lib.hid rfl, Lib.hid (World.ownsRow_nil _ _ _ _), Lib.hid (Ext.refl _)⟩
  case round =>
    obtain ⟨i, U, rfl, hi, hU, HU, HO, HX⟩ := hrel
    obtain ⟨W, rfl⟩ : ∃ W, W = wr := ⟨_, rfl⟩
    obtain ⟨po, co, rfl⟩ := own_slice HO.out
    have k0 : W.cell? ⟨tb, 0, none⟩ = some (.slice pa A.length ca) := (cell_blk (HX.out.blk HB0.out) 0).trans rfl
    have k1 : W.cell? ⟨tb, 1, none⟩ = some (.slice pc A.length cc) := (cell_blk (HX.out.blk HB0.out) 1).trans rfl
    by_cases hlt : i + 1 < A.length
    · have hI : ((i : Nat) : Int) + 1 < (A.length : Nat) := by omega
      have hd : decide (i + 1 < A.length) = true := decide_eq_true hlt
      have hiI : ((i : Nat) : Int) + 1 ≤ 65536 := by omega
      obtain ⟨g, rfl, hg1, hgc⟩ := nrow_at HVC.out (show 0 < C.length by have := HLC.out; omega)
      obtain ⟨ga, rfl, hg2, hga⟩ := nrow_at HVA.out (show 0 < A.length by omega)
      have HCU := Lib.hid (show ∀ W', Ext w3 W' → Calls Tryz.prog 81 #[.agg #[.slice (some ⟨ga, 0, none⟩) A.length ca, .slice (some ⟨g, 0, none⟩) A.length cc], .int .i64 ((i : Int) + 1)] W' fun e w' => e = .returned (.bool (cutL C (i + 1))) ∧ Ext W' w' from fun W' h => by
        have h1 := HVC.out.ext h
        have e := HLC.out
        rw [← e] at h1
        have := c_cut (.slice (some ⟨ga, 0, none⟩) A.length ca) g cc C i (C[i]'(by omega)) (C[i + 1]'(by omega)) W' h1 (by omega) rfl rfl (by omega)
        rw [e] at this
        exact this)
      have HGL := Lib.hid (And.intro hg1 hg2)
      clear hg1 hg2
      have HGC := Lib.hid hgc
      have HGA := Lib.hid hga
      clear hgc hga
      go_wp2_with fail
      refine (HCU.out W HX.out).mono ?_
      rintro e w4 ⟨rfl, hx⟩
      have HUN := Lib.hid (show chGo A C (i + 1) 1 = U ++ (if cutL C (i + 1) then [(A.getD (i + 1) 0, decide (MustL (lastL C (i + 1))))] else []) by
        rw [show i + 1 = i + 1 from rfl, chGo_app A C i 1 1, ← HU.out]
        congr 1
        rw [show 1 + i = i + 1 by omega]
        simp [chGo])
      replace HX := Lib.hid (HX.out.trans hx)
      replace HO := Lib.hid (ownsRow_ext HO.out hx)
      clear hx k0 k1 HCU
      have k0 : w4.cell? ⟨tb, 0, none⟩ = some (.slice (some ⟨ga, 0, none⟩) A.length ca) := (cell_blk (HX.out.blk HB0.out) 0).trans rfl
      have k1 : w4.cell? ⟨tb, 1, none⟩ = some (.slice (some ⟨g, 0, none⟩) A.length cc) := (cell_blk (HX.out.blk HB0.out) 1).trans rfl
      obtain ⟨cb, hcb⟩ : ∃ cb, cutL C (i + 1) = cb := ⟨_, rfl⟩
      rw [hcb] at HUN ⊢
      cases cb
      · go_wp2_with fail
        exact ⟨⟨i + 1, U, by simp, by omega, by omega, Lib.hid (by rw [HUN.out]; simp), HO, HX⟩, by simp only [intOf]; omega⟩
      · rw [if_pos rfl] at HUN
        have hAi : A.getD (i + 1) 0 = A[i + 1] := by simp [List.getD_eq_getElem?_getD, hlt]
        have hCl : i < C.length := by have := HLC.out; omega
        have hCi : lastL C (i + 1) = (C[i] : Nat) := by simp [lastL, List.getD_eq_getElem?_getD, hCl]
        rw [hAi, hCi] at HUN
        have hgZ : g < Z := by rw [← HZ.out]; exact HGL.out.1
        have hgaZ : ga < Z := by rw [← HZ.out]; exact HGL.out.2
        have htZ : tb < Z := by rw [← HZ.out]; exact blk_lt HB0.out
        have s0 : ∀ w', EOn (fun a => a.block < Z) w4 w' → w'.cell? ⟨tb, 0, none⟩ = some (.slice (some ⟨ga, 0, none⟩) A.length ca) := fun w' h => h.cell htZ k0
        have s1 : ∀ w', EOn (fun a => a.block < Z) w4 w' → w'.cell? ⟨tb, 1, none⟩ = some (.slice (some ⟨g, 0, none⟩) A.length cc) := fun w' h => h.cell htZ k1
        have s2 : ∀ w', EOn (fun a => a.block < Z) w4 w' → w'.cell? ⟨ga, i + 1, none⟩ = some (.int .i64 (A[i + 1] : Nat)) := fun w' h => h.cell hgaZ (HX.out.cell (HGA.out (i + 1) hlt))
        have s3 : ∀ w', EOn (fun a => a.block < Z) w4 w' → w'.cell? ⟨g, i, none⟩ = some (.int .i64 (C[i] : Nat)) := fun w' h => h.cell hgZ (HX.out.cell (HGC.out i hCl))
        have hd2 : decide (i < A.length) = true := decide_eq_true (by omega)
        have hI2 : ((i : Nat) : Int) < (A.length : Nat) := by omega
        generalize A[i + 1] = ax at HUN s2
        generalize C[i] = cx at HUN s3
        clear k0 k1 hAi hCi hgZ hgaZ htZ
        go_wp2_with fail
        refine wp_lex (fun a => a.block < Z) [true, true, true, true, true, true, true, true, true, true, true, true, true, true, false, false] (by kernel_rfl) (by kernel_rfl) ?_
        repeat first
          | refine wpG_move' ?_
          | refine wpG_assign' ?_
          | refine wpG_val' ?_
          | refine wpG_no' ?_
        refine wpG_call (by rfl) (fun w' hx => (by go_simp; first | exact rfl | exact ⟨rfl, rfl⟩)) (fun w' hx => (by exact c_must cx w')) (by simp only [Act.put, List.setIfInBounds_toArray, List.set_cons_succ, List.set_cons_zero]; rfl) ?_
        repeat first
          | refine wpG_move' ?_
          | refine wpG_assign' ?_
          | refine wpG_val' ?_
          | refine wpG_no' ?_
        clear s0 s1 s2 s3
        obtain ⟨mb, hmb⟩ : ∃ mb, decide (MustL (cx : Int)) = mb := ⟨_, rfl⟩
        rw [hmb] at HUN ⊢
        clear hmb
        refine wpG_do (by rfl) (fun w7 hx7 K hK => ?_)
        go_wp2_with fail
        have hnew := World.alloc_heap_new w7 (.cells #[.int .i64 (ax : Nat), .bool mb] 112)
        have HX8 := Lib.hid (hx7.alloc (.cells #[.int .i64 (ax : Nat), .bool mb] 112))
        refine ⟨EOn.of_ext ((Ext.refl w7).alloc _), ?_⟩
        generalize w7.alloc (.cells #[.int .i64 (ax : Nat), .bool mb] 112) = w8 at hnew HX8 ⊢
        generalize w7.heap.size = nb at hnew ⊢
        have HO8 := Lib.hid (ownsRow_ext HO.out HX8.out)
        clear hx7
        obtain ⟨i0, hi0, hz0, hz1, hz3⟩ := info_parts Tryz.infoCh
        refine wpG_push rfl (fun a w h => by obtain ⟨_, e, _⟩ := h; cases e) (.tmp 18) (.tmp 32) 109 rfl 112 i0 (.agg #[.int .i64 0, .bool false]) 2 16 Tryz.underlying109 hi0 hz0 hz1 hz3 rfl (by decide) (v := .slice po U.length co) rfl HO8.out (by rw [← HZ.out]; exact (HX.out.trans HX8.out).sz) [.int .i64 (ax : Nat), .bool mb] nb 0 1 1 rfl rfl (fun j hj => by
          match j, hj with
          | 0, _ => exact (cell_blk hnew 0).trans rfl
          | 1, _ => exact (cell_blk hnew 1).trans rfl) (by intro u hu; simp at hu; rcases hu with rfl | rfl <;> rfl) (fun ad hS eq => by
          have h1 := (HO8.out.lt _ eq).1
          have h2 : ad.block < Z := hS
          omega) (by omega) (by decide) ?_
        intro v' w9 w10 hx9 g1 g2 g4
        obtain ⟨p10, c10, rfl⟩ := own_slice g1
        have ho9 := ownsRow_ext HO8.out hx9
        have hX9 := HX.out.trans (HX8.out.trans hx9)
        have HX10 := Lib.hid (show Ext w3 w10 from Below.grown hX9 g2 hX9.sz (fun k e => by have := (ho9.lt k e).1; rw [HZ.out]; exact this))
        have HO10 := Lib.hid g1
        clear hx9 g1 g2 g4 ho9 hX9 hnew
        refine wpG_end (fun w11 hx11 => ?_)
        replace HX := Lib.hid (HX10.out.trans hx11)
        replace HO := Lib.hid (ownsRow_ext HO10.out hx11)
        clear hx11 HX10 HO10
        go_wp2_with fail
        refine gQ_normal ?_
        go_wp2_with fail
        exact ⟨⟨i + 1, U ++ [(ax, mb)], by simp, by omega, by rw [List.length_append]; simp; omega, Lib.hid HUN.out.symm, Lib.hid (by rw [chW_app, List.length_append]; exact HO.out), HX⟩, by simp only [intOf]; omega⟩
    · have hI : ¬ ((i : Nat) : Int) + 1 < (A.length : Nat) := by omega
      have hd : decide (i + 1 < A.length) = false := decide_eq_false hlt
      obtain rfl : i = A.length - 1 := by omega
      have HUE := Lib.hid (show CK = U ++ (if 0 < s.size then [(s.size, true)] else []) by rw [HCH.out, HU.out]; rfl)
      by_cases hs0 : 0 < s.size
      · have hsI : (0 : Int) < (s.size : Nat) := by omega
        have hU6 : U.length ≤ 65536 := by omega
        rw [if_pos hs0] at HUE
        clear hs0
        go_wp2_with (at_builtin; refine Hid.out ?_)
        obtain ⟨i0, hi0, hz0, hz1, hz3⟩ := info_parts Tryz.infoCh
        have hnew := World.alloc_heap_new W (.cells #[.int .i64 (s.size : Nat), .bool true] 112)
        have hxa := (Ext.refl W).alloc (.cells #[.int .i64 (s.size : Nat), .bool true] 112)
        have ho1 := ownsRow_ext HO.out hxa
        refine wpList_append_own_at _ rfl (.tmp 37) (.tmp 41) 109 rfl Z 112 i0 (.agg #[.int .i64 0, .bool false]) 2 16 Tryz.underlying109 hi0 hz0 hz1 hz3 rfl (by decide) (.slice po U.length co) U.length (chW U) rfl ho1 ⟨W.heap.size, 0, none⟩ 1 1 [.int .i64 (s.size : Nat), .bool true] rfl rfl (World.news_of_block hnew) (by intro u hu; simp at hu; rcases hu with rfl | rfl <;> rfl) (by unfold maxLen; omega) (by omega) (by rw [← HZ.out]; exact (HX.out.trans hxa).sz) ?_
        intro v' w9 g1 g2 _ g4
        obtain ⟨p10, c10, rfl⟩ := own_slice g1
        have hX9 := HX.out.trans hxa
        have HX10 := Lib.hid (show Ext w3 w9 from Below.grown hX9 g2 hX9.sz (fun k e => by have := (ho1.lt k e).1; rw [HZ.out]; exact this))
        have HO10 := Lib.hid g1
        clear hxa ho1 g1 g2 g4 hX9 hnew
        go_wp2_with fail
        refine ret_one rfl rfl rfl ⟨_, rfl, ?_, (HX1.out.trans HX3.out).trans HX10.out⟩
        rw [HCK.out, HUE.out, chW_app, List.length_append]
        exact own_lower HO10.out (by rw [← HZ.out]; exact (HX1.out.trans HX3.out).sz)
      · have hsI : ¬ (0 : Int) < (s.size : Nat) := by omega
        rw [if_neg hs0, List.append_nil] at HUE
        clear hs0
        go_wp2_with fail
        refine ret_one rfl rfl rfl ⟨_, rfl, ?_, (HX1.out.trans HX3.out).trans HX.out⟩
        rw [HCK.out, HUE.out]
        exact own_lower HO.out (by rw [← HZ.out]; exact (HX1.out.trans HX3.out).sz)
end Go.Proofs.YtlmkbldiicbejaaGreatDoor
end
