/-
  The document's Load.
-/
import Derived.Test.YtbbemipidkhmfaaRefBy
import Derived.Test.YtbbemipidkhmfaaBytM
namespace Go.Proofs.Ytbbemipidkhmfaa
open Go.RowKit Go.Maps Go.Shelf

theorem GoodB.one {b : List Int} {L : List Rng} (h : GoodB b L) : b.drop 1 = numB L.length ++ rgB 0 L ∧ L.length ≤ 1114112 := by
  refine ⟨?_, ?_⟩
  · conv => lhs; rw [h.2]
    rfl
  · have h1 := h.1.all
    have h2 := h1.1.le
    have h3 := List.length_filter_le (fun x => !(x.cl == b.headD 0)) (allGo (b.headD 0) 0 L)
    rw [h1.2] at h3
    omega
theorem ld_pre {b : List Int} {rest : Int} {m m1 m2 at3 : Nat} {o : List Rng} {nx c : Int} (h1 : b.take (at3 + 1) = b.take at3 ++ [c]) (h2 : b.take at3 = rest :: (numB m ++ rgB 0 o) ++ numB m1 ++ numB m2) (h3 : nextOf o = nx) :
    b.take (at3 + 1) = rest :: (numB m ++ rgB 0 (o ++ [⟨nx + m1, nx + m1 + m2, c⟩])) := by
  rw [h1, h2, rgB_next, h3]
  simp only [rgB]
  rw [show (nx + (m1 : Int) - nx).toNat = m1 from by omega, show (nx + (m1 : Int) + (m2 : Int) - (nx + m1)).toNat = m2 from by omega]
  simp only [List.cons_append, List.append_assoc, List.nil_append]
theorem ld_nf {rest : Int} {m1 m2 : Nat} {o : List Rng} {nx c : Int} (h : NF rest o) (h3 : nextOf o = nx) (h0 : 0 ≤ nx) (h4 : nx + (m1 : Int) + (m2 : Int) ≤ 1114111) (hc : 0 ≤ c ∧ c ≤ 255) (hr : ¬ c = rest) (hl : ∀ y ∈ o.getLast?, m1 = 0 → y.cl ≠ c) : NF rest (o ++ [⟨nx + m1, nx + m1 + m2, c⟩]) := by
  refine h.snoc ⟨by show 0 ≤ nx + (m1 : Int); omega, by show nx + (m1 : Int) ≤ nx + m1 + m2; omega, h4, hc⟩ hr fun y hy => ?_
  have e : y.hi + 1 = nx := by
    rw [← h3]
    unfold nextOf
    rw [Option.mem_def.1 hy]
  refine ⟨by show y.hi < nx + (m1 : Int); omega, fun e2 => hl y hy ?_⟩
  have e2 : y.hi + 1 = nx + (m1 : Int) := e2
  omega
set_option maxRecDepth 100000 in
set_option maxHeartbeats 8000000 in
theorem c_RLoad (v : Value) (b : List Int) (w : World) (h : ByRow w v b) (hl : b.length ≤ 1000000) :
    Calls Try.prog 25 #[v] w fun e w' => Ext w w' ∧ ((e = .returned (.tuple #[.pointer none, .int .i64 31]) ∧ ∀ L, ¬ GoodB b L) ∨
      ∃ Y L, e = .returned (.tuple #[Y, .int .i64 0]) ∧ GoodB b L ∧ IsRef w.heap.size w' Y (b.headD 0) L) := by
  obtain ⟨i0, hi0, hz0, hz1, hz2⟩ := info_parts info32p
  have hb0 : ∀ x ∈ b, 0 ≤ x ∧ x ≤ 255 := by obtain ⟨_, _, _, _, hb, _⟩ := h; exact hb
  obtain ⟨p, cap, rfl⟩ : ∃ p cap, v = .slice p b.length cap := by obtain ⟨p, cap, e, _⟩ := h; exact ⟨p, cap, e⟩
  by_cases hz : b.length = 0
  · have HNO := Lib.hid (show ∀ L, ¬ GoodB b L from fun L hg => by
      have := congrArg List.length hg.2
      rw [hz] at this
      simp [bytesOf] at this)
    have hzb : (((b.length : Nat) : Int) == 0) = true := by rw [hz]; rfl
    clear hz
    go_enter Try.func25, Try.ntmps25
    go_wp2_with fail
    exact bodyPost_ret (v := .tuple #[.pointer none, .int .i64 31]) (by simp [results, Try.results25, go_sem]) rfl ⟨Ext.refl _, .inl ⟨rfl, HNO.out⟩⟩
  have hzb : (((b.length : Nat) : Int) == 0) = false := beq_false_of_ne (by omega)
  obtain ⟨rest, hrest⟩ : ∃ rest, b.headD 0 = rest := ⟨_, rfl⟩
  have hr0 : 0 ≤ rest ∧ rest ≤ 255 := by
    rw [← hrest]
    cases b with
    | nil => simp at hz
    | cons x t => simpa using hb0 x (by simp)
  have HB0 := Lib.hid hb0
  have hpos : 0 < b.length := by omega
  obtain ⟨b1, o1, rfl, hc1⟩ := h.at (by intro e; rw [e] at hpos; simp at hpos)
  have a1 := hc1 0 hpos
  rw [Nat.add_zero] at a1
  have hb00 : b[0] = rest := by
    rw [← hrest]
    cases b with
    | nil => simp at hpos
    | cons x t => rfl
  rw [hb00] at a1
  rw [hrest]
  have HREST := Lib.hid hrest
  have hposI : (0 : Int) < (b.length : Nat) := by omega
  clear hb0 hz hc1 hb00 hrest
  go_enter Try.func25, Try.ntmps25
  go_wp2_with fail
  refine (c_take _ b 1 w h (by omega) hl).mono ?_
  rintro e w1 ⟨hx1, (⟨m, s, hd, hm, rfl⟩ | ⟨x, y, hno, rfl⟩)⟩
  · have HD := Lib.hid hd
    have hlen1 : 1 + (numB m).length ≤ b.length := by
      have := congrArg List.length hd
      rw [List.length_drop, List.length_append] at this
      omega
    obtain ⟨ln, hln⟩ : ∃ ln, (numB m).length = ln := ⟨_, rfl⟩
    have HLN := Lib.hid hln
    rw [hln] at hlen1 ⊢
    have d1 := hx1.cell a1
    have hYa := World.alloc_heap_new w1 (.cells #[.slice none 0 0, .int .i64 rest] 88)
    have hxA := hx1.alloc (.cells #[.slice none 0 0, .int .i64 rest] 88)
    have hszY := hx1.sz
    have hpre := Lib.hid (show b.take (1 + ln) = rest :: (numB m ++ rgB 0 []) from by
      have e : b = rest :: (numB m ++ s) := by
        rw [← HREST.out]
        rw [← hd]
        cases b with
        | nil => simp at hpos
        | cons x t => rfl
      rw [e, Nat.add_comm, List.take_succ_cons, ← HLN.out, List.take_left']
      · simp [rgB]
      · rfl)
    have hall := Lib.hid (show ∀ L, GoodB b L → L.length = m ∧ L.take 0 = [] from fun L hg => ⟨((numB_inj _ _ _ _ (hd.symm.trans hg.one.1)).1).symm, rfl⟩)
    obtain ⟨Y, hYe⟩ : ∃ Y, w1.heap.size = Y := ⟨_, rfl⟩
    have HYE := Lib.hid hYe
    rw [hYe] at hYa hszY
    clear hd hln
    go_wp2_with fail
    go_loopw [5, 6, 8, 9] (fun av kv nv iv W => ∃ (i at_ : Nat) (o : List Rng) (lv : Value), iv = .int .i64 (i : Nat) ∧ av = .int .i64 (at_ : Nat) ∧ kv = .bool true ∧ nv = .int .i64 (nextOf o) ∧ i ≤ m ∧ o.length = i ∧ at_ ≤ b.length ∧ i ≤ at_ ∧ (0 ≤ nextOf o ∧ nextOf o ≤ 1114112) ∧ Hid (b.take at_ = rest :: (numB m ++ rgB 0 o)) ∧ Hid (NF rest o) ∧ Hid (∀ L, GoodB b L → L.length = m ∧ L.take i = o) ∧ W.heap[Y]? = some (.cells #[lv, .int .i64 rest] 88) ∧ W.ownsRow w.heap.size 32 3 lv i (rgCells o) ∧ Ext w W) (fun _ _ _ iv _ => m + 1 - (intOf iv).toNat)
    case atStart =>
      exact ⟨0, 1 + ln, [], _, rfl, by simp, rfl, rfl, by omega, rfl, by omega, by omega, by simp [nextOf], hpre, Lib.hid trivial, hall, hYa, World.ownsRow_nil _ _ _ _, hxA⟩
    case round =>
      clear hpre hall hYa hxA d1
      obtain ⟨i, at_, o, lv, rfl, rfl, rfl, rfl, hi, hol, hat, hia, hnx, hpre, hnf, hall, hY, hrow, hx⟩ := hrel
      obtain ⟨nx, hnxe⟩ : ∃ nx, nextOf o = nx := ⟨_, rfl⟩
      have HNX := Lib.hid hnxe
      rw [hnxe] at hnx ⊢
      clear hnxe
      by_cases hlt : i < m
      · have hltI : ((i : Nat) : Int) < (m : Nat) := by omega
        have hd1 : decide (i < m) = true := decide_eq_true hlt
        have hnext := Lib.hid (fun L (hg : GoodB b L) => good_next hg (by rw [hpre.out, HREST.out]) (hall.out L hg) hlt)
        go_wp2_with fail
        refine (c_take _ b at_ _ (h.mono hx) hat hl).mono ?_
        rintro e w2 ⟨hx2, (⟨m1, s1, hd, hm1, rfl⟩ | ⟨x, y, hno, rfl⟩)⟩
        · have hlen1 : at_ + (numB m1).length ≤ b.length := by
            have := congrArg List.length hd
            rw [List.length_drop, List.length_append] at this
            omega
          have hlp1 := List.length_pos_iff.2 (numB_ne m1)
          obtain ⟨l1, hl1⟩ : ∃ ln, (numB m1).length = ln := ⟨_, rfl⟩
          obtain ⟨ht1, hd1'⟩ := take_add hpre.out hd hl1
          have HT1 := Lib.hid ht1
          have HD1 := Lib.hid hd1'
          have hn1 := Lib.hid (fun L (hg : GoodB b L) => by
            obtain ⟨x, t, e1, e2⟩ := hnext.out L hg
            obtain ⟨e3, e4⟩ := numB_inj _ _ _ _ (hd.symm.trans e1)
            exact (⟨x, t, e3, e4, e2⟩ : ∃ x t, m1 = (x.lo - nextOf o).toNat ∧ s1 = numB (x.hi - x.lo).toNat ++ (x.cl :: rgB (x.hi + 1) t) ∧ Ok1 x ∧ x.cl ≠ b.headD 0 ∧ nextOf o ≤ x.lo ∧ L.take (i + 1) = o ++ [x] ∧ ∀ y ∈ o.getLast?, y.hi + 1 = x.lo → y.cl ≠ x.cl))
          have hx12 := Ext.trans hx hx2
          have hY2 := hx2.blk hY
          have hrow2 := ownsRow_ext hrow hx2
          rw [hl1] at hlen1 hlp1 ⊢
          clear hd hl1 ht1 hd1' hnext hx2 hY hrow
          go_wp2_with fail
          refine (c_take _ b (at_ + l1) _ (h.mono hx12) (by omega) hl).mono ?_
          rintro e w3 ⟨hx3, (⟨m2, s2, hd, hm2, rfl⟩ | ⟨x, y, hno, rfl⟩)⟩
          · have hlen2 : at_ + l1 + (numB m2).length ≤ b.length := by
              have := congrArg List.length hd
              rw [List.length_drop, List.length_append] at this
              omega
            have hlp2 := List.length_pos_iff.2 (numB_ne m2)
            obtain ⟨l2, hl2⟩ : ∃ ln, (numB m2).length = ln := ⟨_, rfl⟩
            obtain ⟨ht2, hd2'⟩ := take_add HT1.out hd hl2
            have HT2 := Lib.hid ht2
            have HD2 := Lib.hid hd2'
            have hn2 := Lib.hid (fun L (hg : GoodB b L) => by
              obtain ⟨x, t, e1, e2, e5⟩ := hn1.out L hg
              obtain ⟨e3, e4⟩ := numB_inj _ _ _ _ (hd.symm.trans (HD1.out.trans e2))
              exact (⟨x, t, e1, e3, e4, e5⟩ : ∃ x t, m1 = (x.lo - nextOf o).toNat ∧ m2 = (x.hi - x.lo).toNat ∧ s2 = x.cl :: rgB (x.hi + 1) t ∧ Ok1 x ∧ x.cl ≠ b.headD 0 ∧ nextOf o ≤ x.lo ∧ L.take (i + 1) = o ++ [x] ∧ ∀ y ∈ o.getLast?, y.hi + 1 = x.lo → y.cl ≠ x.cl))
            have hx13 := Ext.trans hx12 hx3
            have hY3 := hx3.blk hY2
            have hrow3 := ownsRow_ext hrow2 hx3
            rw [hl2] at hlen2 hlp2 ⊢
            obtain ⟨pl, cl, rfl⟩ := own_slice hrow3
            clear hd hl2 ht2 hd2' hn1 hx3 hY2 hrow2 hx12
            obtain ⟨at3, hat3⟩ : ∃ at3, at_ + l1 + l2 = at3 := ⟨_, rfl⟩
            rw [hat3] at hlen2 HT2 HD2 ⊢
            have hia3 : i + 2 ≤ at3 := by omega
            clear hat3
            by_cases h3 : at3 < b.length
            · have h3I : ¬ ((b.length : Nat) : Int) ≤ (at3 : Nat) := by omega
              by_cases hmx : nx + (m1 : Int) + (m2 : Int) ≤ 1114111
              · have hmxI : ¬ (1114111 : Int) < nx + (m1 : Int) + (m2 : Int) := by omega
                obtain ⟨b1', o1', e1', hc1⟩ := (h.mono hx13).at (by intro e; rw [e] at h3; simp at h3)
                cases e1'
                have c1 := hc1 at3 h3
                have hcb := HB0.out _ (List.getElem_mem h3)
                have hdr := List.drop_eq_getElem_cons h3
                have htk := List.take_succ_eq_append_getElem h3
                obtain ⟨c, hc⟩ : ∃ c, b[at3] = c := ⟨_, rfl⟩
                rw [hc] at c1 hcb hdr htk
                have HDR := Lib.hid hdr
                have HTK := Lib.hid htk
                have hn3 := Lib.hid (fun L (hg : GoodB b L) => by
                  obtain ⟨x, t, e1, e2, e3, e4, e5, e6, e7, e8⟩ := hn2.out L hg
                  have e9 := HD2.out.symm.trans HDR.out
                  rw [e3] at e9
                  simp only [List.cons.injEq] at e9
                  have h1 := e4.2.1
                  have h2 := HNX.out
                  have hxe : x = ⟨nx + m1, nx + m1 + m2, c⟩ := by
                    cases x
                    simp only at e1 e2 e9 e6 h1
                    simp only [Rng.mk.injEq]
                    omega
                  rw [hxe] at e5 e7 e8
                  exact (⟨e5, e7, e8⟩ : c ≠ b.headD 0 ∧ L.take (i + 1) = o ++ [⟨nx + m1, nx + m1 + m2, c⟩] ∧ ∀ y ∈ o.getLast?, y.hi + 1 = nx + (m1 : Int) → y.cl ≠ c))
                have hYA := ((Ext.refl w3).alloc (.cells #[.int .i32 (nx + m1), .int .i32 (nx + m1 + m2), .int .i64 c] 32)).blk hY3
                have hbk := World.alloc_heap_new w3 (.cells #[.int .i32 (nx + m1), .int .i32 (nx + m1 + m2), .int .i64 c] 32)
                have hrowA := ownsRow_ext hrow3 ((Ext.refl w3).alloc (.cells #[.int .i32 (nx + m1), .int .i32 (nx + m1 + m2), .int .i64 c] 32))
                have hxA4 := hx13.alloc (.cells #[.int .i32 (nx + m1), .int .i32 (nx + m1 + m2), .int .i64 c] 32)
                have y0 := cell_blk hYA 0
                have y1 := cell_blk hYA 1
                have z0 := cell_blk hbk 0
                have z1 := cell_blk hbk 1
                have z2 := cell_blk hbk 2
                simp only [List.getElem?_toArray, List.getElem?_cons_succ, List.getElem?_cons_zero] at y0 y1 z0 z1 z2
                have hgl := Lib.hid (fun g e => (hrow3.lt g e).2)
                clear hY3 hrow3 hx13
                have h3J : ((at3 : Nat) : Int) < (b.length : Nat) := by omega
                clear hc hdr htk hc1 hn2
                obtain ⟨W4, hW4⟩ : ∃ W4, w3.alloc (.cells #[.int .i32 (nx + m1), .int .i32 (nx + m1 + m2), .int .i64 c] 32) = W4 := ⟨_, rfl⟩
                obtain ⟨XB, hXB⟩ : ∃ XB, w3.heap.size = XB := ⟨_, rfl⟩
                rw [hW4] at hYA hrowA hxA4 y0 y1 z0 z1 z2
                rw [hXB] at z0 z1 z2 hgl
                rw [hW4, hXB] at hbk
                have k0 : ∀ w', EOn (fun _ => True) W4 w' → w'.cell? ⟨Y, 0, none⟩ = _ := fun w' hx => hx.cell trivial y0
                have k1 : ∀ w', EOn (fun _ => True) W4 w' → w'.cell? ⟨Y, 1, none⟩ = _ := fun w' hx => hx.cell trivial y1
                have k2 : ∀ w', EOn (fun _ => True) W4 w' → w'.cell? ⟨XB, 2, none⟩ = _ := fun w' hx => hx.cell trivial z2
                have HNXT := Lib.hid hnx
                by_cases hc : c = rest
                · have hcb2 : (c == rest) = true := beq_iff_eq.2 hc
                  have HNO := Lib.hid (show ∀ L, ¬ GoodB b L from fun L hg => (hn3.out L hg).1 (hc.trans HREST.out.symm))
                  clear hc
                  go_wp2_with fail
                  refine wp_lex (fun _ => True) [true, true, true, true, true, true, true, true, true, true, true, true, true, true, true, true, true, true, true, true, true, true, true, true, true, true, true, true, true] (by kernel_rfl) (by kernel_rfl) ?_
                  repeat first
                    | refine wpG_move (by rfl) (by simp only [Act.eval, Array.getD_eq_getD_getElem?, List.getElem?_toArray, List.getElem?_cons_succ, List.getElem?_cons_zero, Option.getD_some]; try rfl) (by simp only [Act.put, List.setIfInBounds_toArray, List.set_cons_succ, List.set_cons_zero]; rfl) ?_
                    | refine wpG_assign (by rfl) (by simp only [Act.eval, Array.getD_eq_getD_getElem?, List.getElem?_toArray, List.getElem?_cons_succ, List.getElem?_cons_zero, Option.getD_some]; try rfl) (by simp only [Act.put, List.setIfInBounds_toArray, List.set_cons_succ, List.set_cons_zero]; rfl) ?_
                    | refine wpG_val (by rfl) (fun w' hx => (by go_simp; first | (go_bits; first | exact rfl | exact ⟨by omega, rfl⟩) | exact rfl | exact (if_neg (by omega)).trans rfl | exact ⟨by omega, rfl⟩)) (by simp only [Act.put, List.setIfInBounds_toArray, List.set_cons_succ, List.set_cons_zero]; rfl) ?_
                    | refine wpG_no (by rfl) (by simp only [Act.put, List.setIfInBounds_toArray, List.set_cons_succ, List.set_cons_zero]; rfl) ?_
                  refine wpG_end (fun w5 hx5 => wpList_nil (gQ_normal ?_))
                  go_wp2_with fail
                  exact bodyPost_ret (v := .tuple #[.pointer none, .int .i64 31]) (by simp [results, Try.results25, go_sem]) rfl ⟨Ext.trans hxA4 hx5, .inl ⟨rfl, HNO.out⟩⟩
                have hcb2 : (c == rest) = false := beq_false_of_ne hc
                have HC := Lib.hid hc
                clear hc
                rcases Nat.eq_zero_or_pos i with hiz | hiz
                · have hid : decide ((0 : Int) < (i : Nat)) = false := decide_eq_false (by omega)
                  have hid2 : decide (0 < i) = false := decide_eq_false (by omega)
                  have HI0 := Lib.hid hiz
                  clear hiz
                  go_wp2_with fail
                  refine wp_lex (fun _ => True) [true, true, true, true, true, true, true, true, true, true, true, true, true, true, true, true, true, true, true, true, true, true, true, true, true, true, true, true, true] (by kernel_rfl) (by kernel_rfl) ?_
                  repeat first
                    | refine wpG_move (by rfl) (by simp only [Act.eval, Array.getD_eq_getD_getElem?, List.getElem?_toArray, List.getElem?_cons_succ, List.getElem?_cons_zero, Option.getD_some]; try rfl) (by simp only [Act.put, List.setIfInBounds_toArray, List.set_cons_succ, List.set_cons_zero]; rfl) ?_
                    | refine wpG_assign (by rfl) (by simp only [Act.eval, Array.getD_eq_getD_getElem?, List.getElem?_toArray, List.getElem?_cons_succ, List.getElem?_cons_zero, Option.getD_some]; try rfl) (by simp only [Act.put, List.setIfInBounds_toArray, List.set_cons_succ, List.set_cons_zero]; rfl) ?_
                    | refine wpG_val (by rfl) (fun w' hx => (by go_simp; first | (go_bits; first | exact rfl | exact ⟨by omega, rfl⟩) | exact rfl | exact (if_neg (by omega)).trans rfl | exact ⟨by omega, rfl⟩)) (by simp only [Act.put, List.setIfInBounds_toArray, List.set_cons_succ, List.set_cons_zero]; rfl) ?_
                    | refine wpG_no (by rfl) (by simp only [Act.put, List.setIfInBounds_toArray, List.set_cons_succ, List.set_cons_zero]; rfl) ?_
                  refine wpG_end (fun w5 hx5 => wpList_nil (gQ_normal ?_))
                  have hlast := Lib.hid (show ∀ y ∈ o.getLast?, m1 = 0 → y.cl ≠ c from fun y hy _ => by
                    have : o = [] := List.length_eq_zero_iff.1 (by rw [hol]; exact HI0.out)
                    rw [this] at hy
                    simp at hy)
                  have hY5 := hx5.blk hYA
                  have hbk5 := hx5.blk hbk
                  have hrow5 := ownsRow_ext hrowA hx5
                  have hxw5 := Ext.trans hxA4 hx5
                  have y5 := cell_blk hY5 0
                  have z50 := cell_blk hbk5 0
                  have z51 := cell_blk hbk5 1
                  have z52 := cell_blk hbk5 2
                  simp only [List.getElem?_toArray, List.getElem?_cons_succ, List.getElem?_cons_zero] at y5 z50 z51 z52
                  have n0 : ∀ w', EOn (fun a => a.block = Y ∨ a.block = XB) w5 w' → w'.cell? ⟨Y, 0, none⟩ = _ := fun w' hx => hx.cell (.inl rfl) y5
                  have n1 : ∀ w', EOn (fun a => a.block = Y ∨ a.block = XB) w5 w' → w'.cell? ⟨XB, 0, none⟩ = _ := fun w' hx => hx.cell (.inr rfl) z50
                  have n2 : ∀ w', EOn (fun a => a.block = Y ∨ a.block = XB) w5 w' → w'.cell? ⟨XB, 1, none⟩ = _ := fun w' hx => hx.cell (.inr rfl) z51
                  have n3 : ∀ w', EOn (fun a => a.block = Y ∨ a.block = XB) w5 w' → w'.cell? ⟨XB, 2, none⟩ = _ := fun w' hx => hx.cell (.inr rfl) z52
                  clear k0 k1 k2 y0 y1 z0 z1 z2 hx5 hYA hbk hrowA hxA4 y5 z50 z51 z52
                  go_wp2_with fail
                  refine wp_lex ((fun a => a.block = Y ∨ a.block = XB)) [true, true, true, true, true, true, false, false] (by kernel_rfl) (by kernel_rfl) ?_
                  repeat first
                    | refine wpG_move (by rfl) (by simp only [Act.eval, Array.getD_eq_getD_getElem?, List.getElem?_toArray, List.getElem?_cons_succ, List.getElem?_cons_zero, Option.getD_some]; try rfl) (by simp only [Act.put, List.setIfInBounds_toArray, List.set_cons_succ, List.set_cons_zero]; rfl) ?_
                    | refine wpG_assign (by rfl) (by simp only [Act.eval, Array.getD_eq_getD_getElem?, List.getElem?_toArray, List.getElem?_cons_succ, List.getElem?_cons_zero, Option.getD_some]; try rfl) (by simp only [Act.put, List.setIfInBounds_toArray, List.set_cons_succ, List.set_cons_zero]; rfl) ?_
                    | refine wpG_val (by rfl) (fun w' hx => (by go_simp; first | (go_bits; first | exact rfl | exact ⟨by omega, rfl⟩) | exact rfl | exact (if_neg (by omega)).trans rfl | exact ⟨by omega, rfl⟩)) (by simp only [Act.put, List.setIfInBounds_toArray, List.set_cons_succ, List.set_cons_zero]; rfl) ?_
                    | refine wpG_no (by rfl) (by simp only [Act.put, List.setIfInBounds_toArray, List.set_cons_succ, List.set_cons_zero]; rfl) ?_
                  clear n0 n1 n2 n3
                  refine wpG_do (by rfl) (fun w6 hx6 K hK => ?_)
                  go_wp2_with fail
                  refine ⟨EOn.of_ext ((Ext.refl w6).alloc _), ?_⟩
                  refine wpG_do (by rfl) (fun w7 hx7 K hK => ?_)
                  have hx57 : Ext w5 w7 := (hx6.alloc _).trans hx7
                  have hnew := hx7.blk (World.alloc_heap_new w6 (.cells #[.int .i32 (nx + m1), .int .i32 (nx + m1 + m2), .int .i64 c] 32))
                  have hrow7 := ownsRow_ext hrow5 hx57
                  have hY7 := hx57.blk hY5
                  have hxw7 := Ext.trans hxw5 hx57
                  refine wp_append_own w7 (.tmp 130) (.tmp 132) 25 rfl w.heap.size 32 i0 (.agg #[.int .i32 0, .int .i32 0, .int .i64 0]) 3 16 Try.underlying25 hi0 hz0 hz1 hz2 rfl (by decide)
                    _ _ _ rfl hrow7 ⟨w6.heap.size, 0, none⟩ 1 1 [.int .i32 (nx + m1), .int .i32 (nx + m1 + m2), .int .i64 c] rfl rfl (World.news_of_block hnew) (by intro u hu; simp at hu; rcases hu with rfl | rfl | rfl <;> rfl) (by unfold maxLen; omega) (by omega) hxw7.sz ?_
                  intro v' w8 hown' hgrow _
                  have hxw8 : Ext w w8 := Below.grown hxw7 hgrow hxw7.sz (fun k e => (hrow7.lt k e).1)
                  have hYne := row_ne hrow7 hY7 (by decide)
                  have hY8 := (hgrow.block _ (blk_lt hY7) hYne).trans hY7
                  refine hK _ _ ⟨⟨hgrow.size, fun a ha hb => World.cell?_of_block (hgrow.block a.block hb (fun e => by
                    rcases ha with ha | ha
                    · exact hYne (by rw [← ha]; exact e)
                    · have := hgl.out a.block e.symm; omega))⟩, ?_⟩
                  rw [show ∀ z : List Rng, rgCells z ++ [.int .i32 (nx + m1), .int .i32 (nx + m1 + m2), .int .i64 c] = rgCells (z ++ [⟨nx + m1, nx + m1 + m2, c⟩]) from fun z => by rw [rgCells_append]; rfl] at hown'
                  clear hK hgrow hYne hY7 hrow7 hxw7 hnew hx57 hx7 hx6 hxw5 hrow5 hbk5 hY5
                  refine wpG_end (fun w9 hx9 => ?_)
                  obtain ⟨pv, cv, hv'⟩ := own_slice hown'
                  have hown9 := ownsRow_ext hown' hx9
                  have hY9 := hx9.blk hY8
                  have hxw9 := Ext.trans hxw8 hx9
                  have fz := frz_blk hY9 0
                  have y9 := cell_blk hY9 0
                  simp only [List.getElem?_toArray, List.getElem?_cons_succ, List.getElem?_cons_zero] at y9
                  have hYn := set_blk hY9 0 v'
                  have hrown := hown9.kept (grownBy_setAt w9 ⟨Y, 0, none⟩ v') (.inr fun e => row_ne hown9 hY9 (by decide) e.symm)
                  have hxn := hxw9.setCell (p := ⟨Y, 0, none⟩) hszY v'
                  simp only [List.setIfInBounds_toArray, List.set_cons_zero] at hYn
                  subst hv'
                  have hpre2 := Lib.hid (ld_pre HTK.out HT2.out HNX.out)
                  have hnf2 := Lib.hid (ld_nf hnf.out HNX.out HNXT.out.1 hmx hcb HC.out hlast.out)
                  have hall2 := Lib.hid (fun L (hg : GoodB b L) => (⟨(hall.out L hg).1, (hn3.out L hg).2.1⟩ : L.length = m ∧ _))
                  clear hown' hx9 hY8 hxw8 hown9 hY9 hxw9
                  go_wp2_with fail
                  refine gQ_normal ?_
                  go_wp2_with fail
                  go_roundw
                  case rel => exact ⟨(i + 1), at3 + 1, o ++ [⟨nx + m1, nx + m1 + m2, c⟩], _, by simp, by simp, rfl, by rw [nextOf_snoc], by omega, by rw [List.length_append, hol]; rfl, by omega, by omega, by rw [nextOf_snoc]; show 0 ≤ nx + m1 + m2 + 1 ∧ nx + m1 + m2 + 1 ≤ 1114112; have := HNXT.out; omega, hpre2, hnf2, hall2, hYn, hrown, hxn⟩
                  case measure => simp [intOf]; omega
                · have hid : decide ((0 : Int) < (i : Nat)) = true := decide_eq_true (by omega)
                  have hid2 : decide (0 < i) = true := decide_eq_true (by omega)
                  obtain ⟨j, rfl⟩ : ∃ j, i = j + 1 := ⟨i - 1, by omega⟩
                  obtain ⟨g, cl', e⟩ := ownsRow_pos hrowA (by omega)
                  cases e
                  rcases List.eq_nil_or_concat o with rfl | ⟨pre, y, rfl⟩
                  · simp at hol
                  rw [List.concat_eq_append] at *
                  have hpl : pre.length = j := by simpa using hol
                  obtain ⟨q0, q1, q2⟩ := own_getR hrowA j (by omega) (by simp; omega)
                  have hge : (pre ++ [y])[j]'(by simp; omega) = y := by subst hpl; simp
                  rw [hge] at q2
                  have HPL := Lib.hid hpl
                  clear q0 q1 hge hpl
                  have j1 : ((j : Nat) : Int) < (j : Nat) + 1 := by omega
                  have k3 : ∀ w', EOn (fun _ => True) W4 w' → w'.cell? ⟨g, j * 3 + 2, none⟩ = _ := fun w' hx => hx.cell trivial q2
                  by_cases hm0 : m1 = 0
                  · have hmb : (((m1 : Nat) : Int) == 0) = true := by rw [hm0]; rfl
                    have HM0 := Lib.hid hm0
                    clear hm0
                    by_cases hyc : y.cl = c
                    · have hycb : (y.cl == c) = true := beq_iff_eq.2 hyc
                      have HNO := Lib.hid (show ∀ L, ¬ GoodB b L from fun L hg => by
                        have h1 := (hn3.out L hg).2.2 y (by simp)
                        have h2 := HNX.out
                        rw [nextOf_snoc] at h2
                        exact h1 (by have := HM0.out; omega) hyc)
                      clear hyc
                      go_wp2_with fail
                      refine wp_lex (fun _ => True) [true, true, true, true, true, true, true, true, true, true, true, true, true, true, true, true, true, true, true, true, true, true, true, true, true, true, true, true, true] (by kernel_rfl) (by kernel_rfl) ?_
                      repeat first
                        | refine wpG_move (by rfl) (by simp only [Act.eval, Array.getD_eq_getD_getElem?, List.getElem?_toArray, List.getElem?_cons_succ, List.getElem?_cons_zero, Option.getD_some]; try rfl) (by simp only [Act.put, List.setIfInBounds_toArray, List.set_cons_succ, List.set_cons_zero]; rfl) ?_
                        | refine wpG_assign (by rfl) (by simp only [Act.eval, Array.getD_eq_getD_getElem?, List.getElem?_toArray, List.getElem?_cons_succ, List.getElem?_cons_zero, Option.getD_some]; try rfl) (by simp only [Act.put, List.setIfInBounds_toArray, List.set_cons_succ, List.set_cons_zero]; rfl) ?_
                        | refine wpG_val (by rfl) (fun w' hx => (by go_simp; first | (go_bits; first | exact rfl | exact ⟨by omega, rfl⟩) | exact rfl | exact (if_neg (by omega)).trans rfl | exact ⟨by omega, rfl⟩)) (by simp only [Act.put, List.setIfInBounds_toArray, List.set_cons_succ, List.set_cons_zero]; rfl) ?_
                        | refine wpG_no (by rfl) (by simp only [Act.put, List.setIfInBounds_toArray, List.set_cons_succ, List.set_cons_zero]; rfl) ?_
                      refine wpG_end (fun w5 hx5 => wpList_nil (gQ_normal ?_))
                      go_wp2_with fail
                      exact bodyPost_ret (v := .tuple #[.pointer none, .int .i64 31]) (by simp [results, Try.results25, go_sem]) rfl ⟨Ext.trans hxA4 hx5, .inl ⟨rfl, HNO.out⟩⟩
                    · have hycb : (y.cl == c) = false := beq_false_of_ne hyc
                      have hlast := Lib.hid (show ∀ z ∈ (pre ++ [y]).getLast?, m1 = 0 → z.cl ≠ c from fun z hz _ => by
                        simp at hz
                        subst hz
                        exact hyc)
                      clear hyc
                      go_wp2_with fail
                      refine wp_lex (fun _ => True) [true, true, true, true, true, true, true, true, true, true, true, true, true, true, true, true, true, true, true, true, true, true, true, true, true, true, true, true, true] (by kernel_rfl) (by kernel_rfl) ?_
                      repeat first
                        | refine wpG_move (by rfl) (by simp only [Act.eval, Array.getD_eq_getD_getElem?, List.getElem?_toArray, List.getElem?_cons_succ, List.getElem?_cons_zero, Option.getD_some]; try rfl) (by simp only [Act.put, List.setIfInBounds_toArray, List.set_cons_succ, List.set_cons_zero]; rfl) ?_
                        | refine wpG_assign (by rfl) (by simp only [Act.eval, Array.getD_eq_getD_getElem?, List.getElem?_toArray, List.getElem?_cons_succ, List.getElem?_cons_zero, Option.getD_some]; try rfl) (by simp only [Act.put, List.setIfInBounds_toArray, List.set_cons_succ, List.set_cons_zero]; rfl) ?_
                        | refine wpG_val (by rfl) (fun w' hx => (by go_simp; first | (go_bits; first | exact rfl | exact ⟨by omega, rfl⟩) | exact rfl | exact (if_neg (by omega)).trans rfl | exact ⟨by omega, rfl⟩)) (by simp only [Act.put, List.setIfInBounds_toArray, List.set_cons_succ, List.set_cons_zero]; rfl) ?_
                        | refine wpG_no (by rfl) (by simp only [Act.put, List.setIfInBounds_toArray, List.set_cons_succ, List.set_cons_zero]; rfl) ?_
                      refine wpG_end (fun w5 hx5 => wpList_nil (gQ_normal ?_))
                      go_wp2_with fail
                      have hY5 := hx5.blk hYA
                      have hbk5 := hx5.blk hbk
                      have hrow5 := ownsRow_ext hrowA hx5
                      have hxw5 := Ext.trans hxA4 hx5
                      have y5 := cell_blk hY5 0
                      have z50 := cell_blk hbk5 0
                      have z51 := cell_blk hbk5 1
                      have z52 := cell_blk hbk5 2
                      simp only [List.getElem?_toArray, List.getElem?_cons_succ, List.getElem?_cons_zero] at y5 z50 z51 z52
                      have n0 : ∀ w', EOn (fun a => a.block = Y ∨ a.block = XB) w5 w' → w'.cell? ⟨Y, 0, none⟩ = _ := fun w' hx => hx.cell (.inl rfl) y5
                      have n1 : ∀ w', EOn (fun a => a.block = Y ∨ a.block = XB) w5 w' → w'.cell? ⟨XB, 0, none⟩ = _ := fun w' hx => hx.cell (.inr rfl) z50
                      have n2 : ∀ w', EOn (fun a => a.block = Y ∨ a.block = XB) w5 w' → w'.cell? ⟨XB, 1, none⟩ = _ := fun w' hx => hx.cell (.inr rfl) z51
                      have n3 : ∀ w', EOn (fun a => a.block = Y ∨ a.block = XB) w5 w' → w'.cell? ⟨XB, 2, none⟩ = _ := fun w' hx => hx.cell (.inr rfl) z52
                      clear k0 k1 k2 y0 y1 z0 z1 z2 hx5 hYA hbk hrowA hxA4 y5 z50 z51 z52
                      go_wp2_with fail
                      refine wp_lex ((fun a => a.block = Y ∨ a.block = XB)) [true, true, true, true, true, true, false, false] (by kernel_rfl) (by kernel_rfl) ?_
                      repeat first
                        | refine wpG_move (by rfl) (by simp only [Act.eval, Array.getD_eq_getD_getElem?, List.getElem?_toArray, List.getElem?_cons_succ, List.getElem?_cons_zero, Option.getD_some]; try rfl) (by simp only [Act.put, List.setIfInBounds_toArray, List.set_cons_succ, List.set_cons_zero]; rfl) ?_
                        | refine wpG_assign (by rfl) (by simp only [Act.eval, Array.getD_eq_getD_getElem?, List.getElem?_toArray, List.getElem?_cons_succ, List.getElem?_cons_zero, Option.getD_some]; try rfl) (by simp only [Act.put, List.setIfInBounds_toArray, List.set_cons_succ, List.set_cons_zero]; rfl) ?_
                        | refine wpG_val (by rfl) (fun w' hx => (by go_simp; first | (go_bits; first | exact rfl | exact ⟨by omega, rfl⟩) | exact rfl | exact (if_neg (by omega)).trans rfl | exact ⟨by omega, rfl⟩)) (by simp only [Act.put, List.setIfInBounds_toArray, List.set_cons_succ, List.set_cons_zero]; rfl) ?_
                        | refine wpG_no (by rfl) (by simp only [Act.put, List.setIfInBounds_toArray, List.set_cons_succ, List.set_cons_zero]; rfl) ?_
                      clear n0 n1 n2 n3
                      refine wpG_do (by rfl) (fun w6 hx6 K hK => ?_)
                      go_wp2_with fail
                      refine ⟨EOn.of_ext ((Ext.refl w6).alloc _), ?_⟩
                      refine wpG_do (by rfl) (fun w7 hx7 K hK => ?_)
                      have hx57 : Ext w5 w7 := (hx6.alloc _).trans hx7
                      have hnew := hx7.blk (World.alloc_heap_new w6 (.cells #[.int .i32 (nx + m1), .int .i32 (nx + m1 + m2), .int .i64 c] 32))
                      have hrow7 := ownsRow_ext hrow5 hx57
                      have hY7 := hx57.blk hY5
                      have hxw7 := Ext.trans hxw5 hx57
                      refine wp_append_own w7 (.tmp 130) (.tmp 132) 25 rfl w.heap.size 32 i0 (.agg #[.int .i32 0, .int .i32 0, .int .i64 0]) 3 16 Try.underlying25 hi0 hz0 hz1 hz2 rfl (by decide)
                        _ _ _ rfl hrow7 ⟨w6.heap.size, 0, none⟩ 1 1 [.int .i32 (nx + m1), .int .i32 (nx + m1 + m2), .int .i64 c] rfl rfl (World.news_of_block hnew) (by intro u hu; simp at hu; rcases hu with rfl | rfl | rfl <;> rfl) (by unfold maxLen; omega) (by omega) hxw7.sz ?_
                      intro v' w8 hown' hgrow _
                      have hxw8 : Ext w w8 := Below.grown hxw7 hgrow hxw7.sz (fun k e => (hrow7.lt k e).1)
                      have hYne := row_ne hrow7 hY7 (by decide)
                      have hY8 := (hgrow.block _ (blk_lt hY7) hYne).trans hY7
                      refine hK _ _ ⟨⟨hgrow.size, fun a ha hb => World.cell?_of_block (hgrow.block a.block hb (fun e => by
                        rcases ha with ha | ha
                        · exact hYne (by rw [← ha]; exact e)
                        · have := hgl.out a.block e.symm; omega))⟩, ?_⟩
                      rw [show ∀ z : List Rng, rgCells z ++ [.int .i32 (nx + m1), .int .i32 (nx + m1 + m2), .int .i64 c] = rgCells (z ++ [⟨nx + m1, nx + m1 + m2, c⟩]) from fun z => by rw [rgCells_append]; rfl] at hown'
                      clear hK hgrow hYne hY7 hrow7 hxw7 hnew hx57 hx7 hx6 hxw5 hrow5 hbk5 hY5
                      refine wpG_end (fun w9 hx9 => ?_)
                      obtain ⟨pv, cv, hv'⟩ := own_slice hown'
                      have hown9 := ownsRow_ext hown' hx9
                      have hY9 := hx9.blk hY8
                      have hxw9 := Ext.trans hxw8 hx9
                      have fz := frz_blk hY9 0
                      have y9 := cell_blk hY9 0
                      simp only [List.getElem?_toArray, List.getElem?_cons_succ, List.getElem?_cons_zero] at y9
                      have hYn := set_blk hY9 0 v'
                      have hrown := hown9.kept (grownBy_setAt w9 ⟨Y, 0, none⟩ v') (.inr fun e => row_ne hown9 hY9 (by decide) e.symm)
                      have hxn := hxw9.setCell (p := ⟨Y, 0, none⟩) hszY v'
                      simp only [List.setIfInBounds_toArray, List.set_cons_zero] at hYn
                      subst hv'
                      have hpre2 := Lib.hid (ld_pre HTK.out HT2.out HNX.out)
                      have hnf2 := Lib.hid (ld_nf hnf.out HNX.out HNXT.out.1 hmx hcb HC.out hlast.out)
                      have hall2 := Lib.hid (fun L (hg : GoodB b L) => (⟨(hall.out L hg).1, (hn3.out L hg).2.1⟩ : L.length = m ∧ _))
                      clear hown' hx9 hY8 hxw8 hown9 hY9 hxw9
                      go_wp2_with fail
                      refine gQ_normal ?_
                      go_wp2_with fail
                      go_roundw
                      case rel => exact ⟨(j + 1 + 1), at3 + 1, (pre ++ [y]) ++ [⟨nx + m1, nx + m1 + m2, c⟩], _, by simp, by simp, rfl, by rw [nextOf_snoc], by omega, by rw [List.length_append, hol]; rfl, by omega, by omega, by rw [nextOf_snoc]; show 0 ≤ nx + m1 + m2 + 1 ∧ nx + m1 + m2 + 1 ≤ 1114112; have := HNXT.out; omega, hpre2, hnf2, hall2, hYn, hrown, hxn⟩
                      case measure => simp [intOf]; omega
                  · have hmb : (((m1 : Nat) : Int) == 0) = false := beq_false_of_ne (by omega)
                    have hlast := Lib.hid (show ∀ z ∈ (pre ++ [y]).getLast?, m1 = 0 → z.cl ≠ c from fun z hz e => absurd e hm0)
                    clear hm0
                    go_wp2_with fail
                    refine wp_lex (fun _ => True) [true, true, true, true, true, true, true, true, true, true, true, true, true, true, true, true, true, true, true, true, true, true, true, true, true, true, true, true, true] (by kernel_rfl) (by kernel_rfl) ?_
                    repeat first
                      | refine wpG_move (by rfl) (by simp only [Act.eval, Array.getD_eq_getD_getElem?, List.getElem?_toArray, List.getElem?_cons_succ, List.getElem?_cons_zero, Option.getD_some]; try rfl) (by simp only [Act.put, List.setIfInBounds_toArray, List.set_cons_succ, List.set_cons_zero]; rfl) ?_
                      | refine wpG_assign (by rfl) (by simp only [Act.eval, Array.getD_eq_getD_getElem?, List.getElem?_toArray, List.getElem?_cons_succ, List.getElem?_cons_zero, Option.getD_some]; try rfl) (by simp only [Act.put, List.setIfInBounds_toArray, List.set_cons_succ, List.set_cons_zero]; rfl) ?_
                      | refine wpG_val (by rfl) (fun w' hx => (by go_simp; first | (go_bits; first | exact rfl | exact ⟨by omega, rfl⟩) | exact rfl | exact (if_neg (by omega)).trans rfl | exact ⟨by omega, rfl⟩)) (by simp only [Act.put, List.setIfInBounds_toArray, List.set_cons_succ, List.set_cons_zero]; rfl) ?_
                      | refine wpG_no (by rfl) (by simp only [Act.put, List.setIfInBounds_toArray, List.set_cons_succ, List.set_cons_zero]; rfl) ?_
                    refine wpG_end (fun w5 hx5 => wpList_nil (gQ_normal ?_))
                    go_wp2_with fail
                    have hY5 := hx5.blk hYA
                    have hbk5 := hx5.blk hbk
                    have hrow5 := ownsRow_ext hrowA hx5
                    have hxw5 := Ext.trans hxA4 hx5
                    have y5 := cell_blk hY5 0
                    have z50 := cell_blk hbk5 0
                    have z51 := cell_blk hbk5 1
                    have z52 := cell_blk hbk5 2
                    simp only [List.getElem?_toArray, List.getElem?_cons_succ, List.getElem?_cons_zero] at y5 z50 z51 z52
                    have n0 : ∀ w', EOn (fun a => a.block = Y ∨ a.block = XB) w5 w' → w'.cell? ⟨Y, 0, none⟩ = _ := fun w' hx => hx.cell (.inl rfl) y5
                    have n1 : ∀ w', EOn (fun a => a.block = Y ∨ a.block = XB) w5 w' → w'.cell? ⟨XB, 0, none⟩ = _ := fun w' hx => hx.cell (.inr rfl) z50
                    have n2 : ∀ w', EOn (fun a => a.block = Y ∨ a.block = XB) w5 w' → w'.cell? ⟨XB, 1, none⟩ = _ := fun w' hx => hx.cell (.inr rfl) z51
                    have n3 : ∀ w', EOn (fun a => a.block = Y ∨ a.block = XB) w5 w' → w'.cell? ⟨XB, 2, none⟩ = _ := fun w' hx => hx.cell (.inr rfl) z52
                    clear k0 k1 k2 y0 y1 z0 z1 z2 hx5 hYA hbk hrowA hxA4 y5 z50 z51 z52
                    go_wp2_with fail
                    refine wp_lex ((fun a => a.block = Y ∨ a.block = XB)) [true, true, true, true, true, true, false, false] (by kernel_rfl) (by kernel_rfl) ?_
                    repeat first
                      | refine wpG_move (by rfl) (by simp only [Act.eval, Array.getD_eq_getD_getElem?, List.getElem?_toArray, List.getElem?_cons_succ, List.getElem?_cons_zero, Option.getD_some]; try rfl) (by simp only [Act.put, List.setIfInBounds_toArray, List.set_cons_succ, List.set_cons_zero]; rfl) ?_
                      | refine wpG_assign (by rfl) (by simp only [Act.eval, Array.getD_eq_getD_getElem?, List.getElem?_toArray, List.getElem?_cons_succ, List.getElem?_cons_zero, Option.getD_some]; try rfl) (by simp only [Act.put, List.setIfInBounds_toArray, List.set_cons_succ, List.set_cons_zero]; rfl) ?_
                      | refine wpG_val (by rfl) (fun w' hx => (by go_simp; first | (go_bits; first | exact rfl | exact ⟨by omega, rfl⟩) | exact rfl | exact (if_neg (by omega)).trans rfl | exact ⟨by omega, rfl⟩)) (by simp only [Act.put, List.setIfInBounds_toArray, List.set_cons_succ, List.set_cons_zero]; rfl) ?_
                      | refine wpG_no (by rfl) (by simp only [Act.put, List.setIfInBounds_toArray, List.set_cons_succ, List.set_cons_zero]; rfl) ?_
                    clear n0 n1 n2 n3
                    refine wpG_do (by rfl) (fun w6 hx6 K hK => ?_)
                    go_wp2_with fail
                    refine ⟨EOn.of_ext ((Ext.refl w6).alloc _), ?_⟩
                    refine wpG_do (by rfl) (fun w7 hx7 K hK => ?_)
                    have hx57 : Ext w5 w7 := (hx6.alloc _).trans hx7
                    have hnew := hx7.blk (World.alloc_heap_new w6 (.cells #[.int .i32 (nx + m1), .int .i32 (nx + m1 + m2), .int .i64 c] 32))
                    have hrow7 := ownsRow_ext hrow5 hx57
                    have hY7 := hx57.blk hY5
                    have hxw7 := Ext.trans hxw5 hx57
                    refine wp_append_own w7 (.tmp 130) (.tmp 132) 25 rfl w.heap.size 32 i0 (.agg #[.int .i32 0, .int .i32 0, .int .i64 0]) 3 16 Try.underlying25 hi0 hz0 hz1 hz2 rfl (by decide)
                      _ _ _ rfl hrow7 ⟨w6.heap.size, 0, none⟩ 1 1 [.int .i32 (nx + m1), .int .i32 (nx + m1 + m2), .int .i64 c] rfl rfl (World.news_of_block hnew) (by intro u hu; simp at hu; rcases hu with rfl | rfl | rfl <;> rfl) (by unfold maxLen; omega) (by omega) hxw7.sz ?_
                    intro v' w8 hown' hgrow _
                    have hxw8 : Ext w w8 := Below.grown hxw7 hgrow hxw7.sz (fun k e => (hrow7.lt k e).1)
                    have hYne := row_ne hrow7 hY7 (by decide)
                    have hY8 := (hgrow.block _ (blk_lt hY7) hYne).trans hY7
                    refine hK _ _ ⟨⟨hgrow.size, fun a ha hb => World.cell?_of_block (hgrow.block a.block hb (fun e => by
                      rcases ha with ha | ha
                      · exact hYne (by rw [← ha]; exact e)
                      · have := hgl.out a.block e.symm; omega))⟩, ?_⟩
                    rw [show ∀ z : List Rng, rgCells z ++ [.int .i32 (nx + m1), .int .i32 (nx + m1 + m2), .int .i64 c] = rgCells (z ++ [⟨nx + m1, nx + m1 + m2, c⟩]) from fun z => by rw [rgCells_append]; rfl] at hown'
                    clear hK hgrow hYne hY7 hrow7 hxw7 hnew hx57 hx7 hx6 hxw5 hrow5 hbk5 hY5
                    refine wpG_end (fun w9 hx9 => ?_)
                    obtain ⟨pv, cv, hv'⟩ := own_slice hown'
                    have hown9 := ownsRow_ext hown' hx9
                    have hY9 := hx9.blk hY8
                    have hxw9 := Ext.trans hxw8 hx9
                    have fz := frz_blk hY9 0
                    have y9 := cell_blk hY9 0
                    simp only [List.getElem?_toArray, List.getElem?_cons_succ, List.getElem?_cons_zero] at y9
                    have hYn := set_blk hY9 0 v'
                    have hrown := hown9.kept (grownBy_setAt w9 ⟨Y, 0, none⟩ v') (.inr fun e => row_ne hown9 hY9 (by decide) e.symm)
                    have hxn := hxw9.setCell (p := ⟨Y, 0, none⟩) hszY v'
                    simp only [List.setIfInBounds_toArray, List.set_cons_zero] at hYn
                    subst hv'
                    have hpre2 := Lib.hid (ld_pre HTK.out HT2.out HNX.out)
                    have hnf2 := Lib.hid (ld_nf hnf.out HNX.out HNXT.out.1 hmx hcb HC.out hlast.out)
                    have hall2 := Lib.hid (fun L (hg : GoodB b L) => (⟨(hall.out L hg).1, (hn3.out L hg).2.1⟩ : L.length = m ∧ _))
                    clear hown' hx9 hY8 hxw8 hown9 hY9 hxw9
                    go_wp2_with fail
                    refine gQ_normal ?_
                    go_wp2_with fail
                    go_roundw
                    case rel => exact ⟨(j + 1 + 1), at3 + 1, (pre ++ [y]) ++ [⟨nx + m1, nx + m1 + m2, c⟩], _, by simp, by simp, rfl, by rw [nextOf_snoc], by omega, by rw [List.length_append, hol]; rfl, by omega, by omega, by rw [nextOf_snoc]; show 0 ≤ nx + m1 + m2 + 1 ∧ nx + m1 + m2 + 1 ≤ 1114112; have := HNXT.out; omega, hpre2, hnf2, hall2, hYn, hrown, hxn⟩
                    case measure => simp [intOf]; omega
              · have HNO := Lib.hid (show ∀ L, ¬ GoodB b L from fun L hg => by
                  obtain ⟨x, t, e1, e2, e3, e4, e5, e6, e7, e8⟩ := hn2.out L hg
                  have h1 := e4.2.1
                  have h2 := e4.2.2.1
                  have h4 := HNX.out
                  omega)
                have hmxI : (1114111 : Int) < nx + (m1 : Int) + (m2 : Int) := by omega
                clear hmx
                go_wp2_with fail
                exact bodyPost_ret (v := .tuple #[.pointer none, .int .i64 31]) (by simp [results, Try.results25, go_sem]) rfl ⟨hx13, .inl ⟨rfl, HNO.out⟩⟩
            · have HNO := Lib.hid (show ∀ L, ¬ GoodB b L from fun L hg => by
                obtain ⟨x, t, e1, e2, e3, _⟩ := hn2.out L hg
                have := HD2.out
                rw [e3, List.drop_eq_nil_of_le (by omega)] at this
                cases this)
              have h3I : ((b.length : Nat) : Int) ≤ (at3 : Nat) := by omega
              go_wp2_with fail
              exact bodyPost_ret (v := .tuple #[.pointer none, .int .i64 31]) (by simp [results, Try.results25, go_sem]) rfl ⟨hx13, .inl ⟨rfl, HNO.out⟩⟩
          · have HNO := Lib.hid (show ∀ L, ¬ GoodB b L from fun L hg => by
              obtain ⟨x, t, e1, e2, e3, _⟩ := hn1.out L hg
              exact hno _ _ (by have := e3.1; have := e3.2.1; have := e3.2.2.1; omega) (HD1.out.trans e2))
            clear hno
            go_wp2_with fail
            exact bodyPost_ret (v := .tuple #[.pointer none, .int .i64 31]) (by simp [results, Try.results25, go_sem]) rfl ⟨Ext.trans hx12 hx3, .inl ⟨rfl, HNO.out⟩⟩
        · have HNO := Lib.hid (show ∀ L, ¬ GoodB b L from fun L hg => by
            obtain ⟨x, t, e1, e3, _, e5, _⟩ := hnext.out L hg
            exact hno _ _ (by have := e3.1; have := e3.2.1; have := e3.2.2.1; have := hnx; have := HNX.out; omega) e1)
          clear hno
          go_wp2_with fail
          exact bodyPost_ret (v := .tuple #[.pointer none, .int .i64 31]) (by simp [results, Try.results25, go_sem]) rfl ⟨Ext.trans hx hx2, .inl ⟨rfl, HNO.out⟩⟩
      · have hltI : ¬ ((i : Nat) : Int) < (m : Nat) := by omega
        have hd1 : decide (i < m) = false := decide_eq_false hlt
        by_cases hend : at_ = b.length
        · have hne : ((((at_ : Nat) : Int)) != ((b.length : Nat) : Int)) = false := by rw [hend]; simp
          have hne2 : (at_ != b.length) = false := by rw [hend]; simp
          have him : i = m := by omega
          have hgood := Lib.hid (good_of (b := b) (o := o) (m := m) (by rw [HREST.out, ← hpre.out, hend]) (by rw [HREST.out]; exact hnf.out) (by rw [hol, him]))
          have hy := blk_lt hY
          clear hend
          go_wp2_with fail
          refine bodyPost_ret (v := .tuple #[.pointer (some ⟨Y, 0, none⟩), .int .i64 0]) (by simp [results, Try.results25, go_sem]) rfl ⟨hx, .inr ⟨.pointer (some ⟨Y, 0, none⟩), rfl, o, hgood.out, Y, lv, rfl, ?_⟩⟩
          refine ⟨by first | exact hY | (rw [HREST.out]; exact hY), hszY, by rw [hol]; exact hrow, by first | exact hnf.out | (rw [HREST.out]; exact hnf.out), by first | exact hr0 | (rw [HREST.out]; exact hr0)⟩
        · have hne : ((((at_ : Nat) : Int)) != ((b.length : Nat) : Int)) = true := bne_iff_ne.2 (by omega)
          have HNO := Lib.hid (show ∀ L, ¬ GoodB b L from fun L hg => by
            have := good_end hg (by rw [hpre.out, HREST.out]) (hall.out L hg) (by omega)
            omega)
          clear hend
          go_wp2_with fail
          exact bodyPost_ret (v := .tuple #[.pointer none, .int .i64 31]) (by simp [results, Try.results25, go_sem]) rfl ⟨hx, .inl ⟨rfl, HNO.out⟩⟩
  · have HNO := Lib.hid (show ∀ L, ¬ GoodB b L from fun L hg => hno _ _ (by have := hg.one.2; omega) hg.one.1)
    have d1 := hx1.cell a1
    clear hno
    have hxA := hx1.alloc (.cells #[.slice none 0 0, .int .i64 rest] 88)
    go_wp2_with fail
    go_loopw [5, 6, 8, 9] (fun av kv nv iv W => av = .int .i64 y ∧ kv = .bool false ∧ nv = .int .i64 0 ∧ iv = .int .i64 0 ∧ Ext w W) (fun _ _ _ iv _ => 1 - (intOf iv).toNat)
    case atStart => exact ⟨rfl, rfl, rfl, rfl, hxA⟩
    case round =>
      clear hxA
      obtain ⟨rfl, rfl, rfl, rfl, hx⟩ := hrel
      by_cases h0 : (0 : Int) < x
      · have hd0 : decide ((0 : Int) < x) = true := decide_eq_true h0
        go_wp2_with fail
        exact bodyPost_ret (v := .tuple #[.pointer none, .int .i64 31]) (by simp [results, Try.results25, go_sem]) rfl ⟨hx, .inl ⟨rfl, HNO.out⟩⟩
      · have hd0 : decide ((0 : Int) < x) = false := decide_eq_false h0
        go_wp2_with fail
        exact bodyPost_ret (v := .tuple #[.pointer none, .int .i64 31]) (by simp [results, Try.results25, go_sem]) rfl ⟨hx, .inl ⟨rfl, HNO.out⟩⟩
end Go.Proofs.Ytbbemipidkhmfaa
