/-
  An item of a spelling.
-/
import Derived.Test.YtlmkbldiicbejaaGreatDoorPrS
namespace Go.Proofs.YtlmkbldiicbejaaGreatDoor
open Go.RowKit Go.Rp Go.Maps Go.Cl

set_option maxRecDepth 100000 in
set_option maxHeartbeats 4000000 in
theorem c_rrune (xb : Nat) (s : ByteArray) (k : Nat) (d r : List UInt8) (w : World) (h : RdAt w xb s k) (hs : s.size ≤ 100000)
    (hl : s.data.toList.drop k = 85 :: 43 :: (d ++ r)) (hd : ∀ c ∈ d, hexP c = true) (hr : ∀ c, r.head? = some c → hexP c = false) (h4 : 4 ≤ d.length) (h6 : d.length ≤ 6) (hv : hexV d ≤ 1114111) :
    Calls Tryz.prog 124 #[.pointer (some ⟨xb, 0, none⟩)] w fun e w' => e = .returned (.int .i32 (hexV d : Nat)) ∧ RdAt w' xb s (k + 2 + d.length) ∧ w.grownBy w' (some xb) := by
  have hlen := congrArg List.length hl
  simp only [List.length_drop, List.length_cons, List.length_append, len_eq] at hlen
  have e0 := h.c0
  have e1 := h.c1
  have HR := Lib.hid h
  have kI : ((k : Nat) : Int) ≤ (s.size : Nat) := by omega
  go_enter Tryz.func124, Tryz.ntmps124
  have q0 : ∀ w', EOn (fun _ => True) w w' → w'.cell? ⟨xb, 0, none⟩ = some (.string s) := fun w' hx => hx.cell trivial e0
  have q1 : ∀ w', EOn (fun _ => True) w w' → w'.cell? ⟨xb, 1, none⟩ = some (.int .i64 (k : Nat)) := fun w' hx => hx.cell trivial e1
  clear e0 e1
  go_wp2_with fail
  refine wp_lex (fun _ => True) [true, true, true, true, true, true, true, true, true, true] (by kernel_rfl) (by kernel_rfl) ?_
  repeat first
    | refine wpG_move' ?_
    | refine wpG_assign' ?_
    | refine wpG_val' ?_
    | refine wpG_no' ?_
  refine wpG_end (fun w1 hx1 => wpList_nil (gQ_normal ?_))
  have HR1 := Lib.hid (HR.out.ext hx1)
  have HX1 := Lib.hid hx1
  clear q0 q1 hx1
  have hpre : (⟨#[85, 43]⟩ : ByteArray).data.toList.isPrefixOf (s.extract k s.size).data.toList = true := by
    rw [toList_extract, hl, show s.size - k = (s.size - k - 2) + 1 + 1 by omega]
    rfl
  generalize s.extract k s.size = x at hpre ⊢
  have HPP := Lib.hid hpre
  clear hpre
  go_wp2_with fail
  refine (prefC x ⟨#[85, 43]⟩ w1).mono ?_
  rw [HPP.out]
  rintro e w2 ⟨rfl, hx2⟩
  have HR2 := Lib.hid (HR1.out.ext hx2)
  have HX2 := Lib.hid (HX1.out.trans hx2)
  clear hx2
  go_wp2_with fail
  refine (c_rnumber xb s k d r w2 HR2.out hs hl hd hr h4 h6 hv).mono ?_
  rintro e w3 ⟨rfl, h3, hg3⟩
  have H3 := Lib.hid (And.intro h3 ((grown_ext HX2.out _).trans hg3))
  clear h3 hg3
  go_wp2_with fail
  exact ret_one rfl rfl rfl ⟨rfl, H3.out⟩
theorem isPre_nil (l : List UInt8) : ([] : List UInt8).isPrefixOf l = true := by cases l <;> rfl
theorem RdAt.lt {W : World} {xb : Nat} {s : ByteArray} {k : Nat} (h : RdAt W xb s k) : xb < W.heap.size := blk_lt h
theorem tw_all (p : UInt8 → Bool) : ∀ l : List UInt8, ∀ c ∈ l.takeWhile p, p c = true
  | [], c, h => by cases h
  | x :: l, c, h => by
    rw [List.takeWhile_cons] at h
    split at h
    · rename_i hx
      rcases List.mem_cons.1 h with rfl | h
      · exact hx
      · exact tw_all p l c h
    · cases h
theorem numP_inv {l r : List UInt8} {v : Nat} (h : numP l = some (v, r)) : ∃ d, l = 85 :: 43 :: (d ++ r) ∧ (∀ c ∈ d, hexP c = true) ∧ (∀ c, r.head? = some c → hexP c = false) ∧ 4 ≤ d.length ∧ d.length ≤ 6 ∧ hexV d ≤ 1114111 ∧ hexV d = v := by
  unfold numP at h
  split at h
  · rename_i a b t
    split at h
    · rename_i hc
      obtain ⟨rfl, rfl, h4, h6, hv⟩ := hc
      simp only [Option.some.injEq, Prod.mk.injEq] at h
      obtain ⟨rfl, rfl⟩ := h
      exact ⟨t.takeWhile hexP, by rw [List.takeWhile_append_dropWhile], tw_all hexP t, fun c hc => by
        have := List.head?_dropWhile_not hexP t
        rw [hc] at this
        simpa using this, h4, h6, hv, rfl⟩
    · cases h
  · cases h
theorem c_rruneP (xb : Nat) (s : ByteArray) (k v : Nat) (r : List UInt8) (w : World) (h : RdAt w xb s k) (hs : s.size ≤ 100000) (hn : numP (s.data.toList.drop k) = some (v, r)) :
    Calls Tryz.prog 124 #[.pointer (some ⟨xb, 0, none⟩)] w fun e w' => e = .returned (.int .i32 (v : Nat)) ∧ (∃ k', k < k' ∧ k' ≤ s.size ∧ s.data.toList.drop k' = r ∧ RdAt w' xb s k') ∧ w.grownBy w' (some xb) := by
  obtain ⟨d, hl, hd, hr, h4, h6, hv, rfl⟩ := numP_inv hn
  have hlen := congrArg List.length hl
  simp only [List.length_drop, List.length_cons, List.length_append, len_eq] at hlen
  refine (c_rrune xb s k d r w h hs hl hd hr h4 h6 hv).mono fun e w' h => ⟨h.1, ⟨_, by omega, by omega, ?_, h.2.1⟩, h.2.2⟩
  have h2 := congrArg (fun l : List UInt8 => l.drop (2 + d.length)) hl
  simp only [List.drop_drop] at h2
  rw [show k + 2 + d.length = k + (2 + d.length) by omega, h2, show 2 + d.length = d.length + 1 + 1 by omega, List.drop_succ_cons, List.drop_succ_cons, List.drop_left']
  rfl
set_option maxRecDepth 100000 in
set_option maxHeartbeats 4000000 in
theorem c_ritem (xb : Nat) (s : ByteArray) (k : Nat) (x : Nat × Nat) (r : List UInt8) (w : World) (h : RdAt w xb s k) (hs : s.size ≤ 100000)
    (hi : itemP (s.data.toList.drop k) = some (x, r)) :
    Calls Tryz.prog 102 #[.pointer (some ⟨xb, 0, none⟩)] w fun e w' => e = .returned (.agg #[.int .i32 (x.1 : Nat), .int .i32 (x.2 : Nat)]) ∧ (∃ k', k < k' ∧ k' ≤ s.size ∧ s.data.toList.drop k' = r ∧ RdAt w' xb s k') ∧ w.grownBy w' (some xb) := by
  have hx0 := (Ext.refl w).alloc (.cells #[.int .i32 0, .int .i32 0] 139)
  have hb0 := World.alloc_heap_new w (.cells #[.int .i32 0, .int .i32 0] 139)
  have HW := Lib.hid (show xb ≠ w.heap.size ∧ w.heap.size ≤ w.heap.size from ⟨fun e => by have := h.lt; omega, Nat.le_refl _⟩)
  have h0 := h.ext hx0
  have f1 : ∀ o, (w.alloc o).cell? ⟨xb, 1, none⟩ = some (.int .i64 (k : Nat)) := fun o => (h.ext ((Ext.refl w).alloc o)).c1
  have HH := Lib.hid (And.intro hx0 (And.intro hb0 h0))
  clear hx0 hb0 h0
  unfold itemP at hi
  split at hi
  · cases hi
  rename_i lo r1 hlo
  have HLO := Lib.hid hlo
  clear hlo
  go_enter Tryz.func102, Tryz.ntmps102
  go_wp2_with fail
  generalize w.alloc (.cells #[.int .i32 0, .int .i32 0] 139) = W0 at HH ⊢
  obtain ⟨rb, hrb⟩ : ∃ rb, w.heap.size = rb := ⟨_, rfl⟩
  replace HW := Lib.hid (show xb ≠ rb ∧ w.heap.size ≤ rb from ⟨hrb ▸ HW.out.1, by omega⟩)
  simp only [hrb] at HH ⊢
  clear hrb
  clear f1
  refine (c_rruneP xb s k lo r1 W0 HH.out.2.2 hs HLO.out).mono ?_
  rintro e w1 ⟨rfl, ⟨k1, hk1, hk1s, hd1, hr1⟩, hg1⟩
  have HR1 := Lib.hid (And.intro hr1 (And.intro (hg1.block rb (blk_lt HH.out.2.1) (fun e => HW.out.1 (Option.some.inj e).symm) |>.trans HH.out.2.1) ((grown_ext HH.out.1 _).trans hg1)))
  have HK1 := Lib.hid (And.intro hk1 hd1)
  have k1I : ((k1 : Nat) : Int) ≤ (s.size : Nat) := by omega
  clear hr1 hg1 HH HLO hd1 hk1
  have q0 : ∀ w', EOn (fun _ => True) w1 w' → w'.cell? ⟨xb, 0, none⟩ = some (.string s) := fun w' hx => hx.cell trivial HR1.out.1.c0
  have q1 : ∀ w', EOn (fun _ => True) w1 w' → w'.cell? ⟨xb, 1, none⟩ = some (.int .i64 (k1 : Nat)) := fun w' hx => hx.cell trivial HR1.out.1.c1
  by_cases h45 : r1.headD 32 = 45
  · rw [if_pos h45] at hi
    split at hi
    · cases hi
    rename_i hi2 r2 hnum
    split at hi
    case isFalse => cases hi
    rename_i hok
    obtain ⟨rfl, rfl⟩ : x = (lo, hi2) ∧ r = r2 := by
      have := Option.some.inj hi
      exact ⟨congrArg Prod.fst this.symm, congrArg Prod.snd this.symm⟩
    clear hi
    have HOK := Lib.hid hok
    have HNUM := Lib.hid hnum
    clear hok hnum
    cases r1 with
    | nil => exact absurd h45 (by decide)
    | cons c r1 =>
      obtain rfl : c = 45 := h45
      have hk1l : k1 < s.size := by
        have := congrArg List.length HK1.out.2
        simp only [List.length_drop, List.length_cons, len_eq] at this
        omega
      have hbyte : s[k1] = 45 := byte_at hk1l (by rw [drop_get HK1.out.2 k1 (Nat.le_refl _), Nat.sub_self]; rfl)
      have hI : ((k1 : Nat) : Int) < (s.size : Nat) := by omega
      have hdd : decide (k1 < s.size) = true := decide_eq_true hk1l
      have hbb : ((s[k1].toNat : Nat) : Int) = 45 := by rw [hbyte]; rfl
      go_wp2_with fail
      refine wp_lex (fun _ => True) [true, true, true, true, true, true, true, true, true, true, true, true, true, true, true, true, true, true, true, true, true, true] (by kernel_rfl) (by kernel_rfl) ?_
      repeat first
        | refine wpG_move' ?_
        | refine wpG_assign' ?_
        | refine wpG_val' ?_
        | refine wpG_no' ?_
      refine wpG_end (fun w2 hx2 => wpList_nil (gQ_normal ?_))
      clear q0 q1 hbb hbyte
      have HR2 := Lib.hid (And.intro (HR1.out.1.ext hx2) (And.intro (hx2.blk HR1.out.2.1) (HR1.out.2.2.trans (grown_ext hx2 _))))
      clear hx2
      have f1 := HR2.out.1.c1
      have f2 := HR2.out.1.fz 1
      go_wp2_with fail
      have hs3 := HR2.out.1.set (k1 + 1)
      rw [show ((k1 + 1 : Nat) : Int) = (k1 : Nat) + 1 from by omega] at hs3
      have HR3 := Lib.hid (And.intro hs3 (And.intro ((grown_cell w2 xb 1 (.int .i64 ((k1 : Nat) + 1))).block rb (blk_lt HR2.out.2.1) (fun e => HW.out.1 (Option.some.inj e).symm) |>.trans HR2.out.2.1) (HR2.out.2.2.trans (grown_cell w2 xb 1 (.int .i64 ((k1 : Nat) + 1))))))
      clear hs3 f1 f2 HR2
      generalize w2.setCell ⟨xb, 1, none⟩ (.int .i64 ((k1 : Nat) + 1)) = w3 at HR3 ⊢
      refine (c_rruneP xb s (k1 + 1) hi2 r w3 HR3.out.1 hs (by
        have h2 := congrArg (fun l : List UInt8 => l.drop 1) HK1.out.2
        simp only [List.drop_drop, List.drop_succ_cons, List.drop_zero] at h2
        rw [h2]
        exact HNUM.out)).mono ?_
      rintro e w4 ⟨rfl, ⟨k4, hk4, hk4s, hd4, hr4⟩, hg4⟩
      have HR4 := Lib.hid (And.intro hr4 (And.intro (hg4.block rb (blk_lt HR3.out.2.1) (fun e => HW.out.1 (Option.some.inj e).symm) |>.trans HR3.out.2.1) (HR3.out.2.2.trans hg4)))
      have HK4 := Lib.hid (And.intro (show k < k4 by have := HK1.out.1; omega) hd4)
      have k4I : ((k4 : Nat) : Int) ≤ (s.size : Nat) := by omega
      have hlh : ((lo : Nat) : Int) ≤ (hi2 : Nat) := by have := HOK.out.1; omega
      have HEND := Lib.hid HOK.out.2
      clear hr4 hg4 HR3 hd4 hk4 k1I hI hdd hk1l HK1 HR1
      go_wp2_with fail
      have q0 : ∀ w', EOn (fun _ => True) w4 w' → w'.cell? ⟨xb, 0, none⟩ = some (.string s) := fun w' hx => hx.cell trivial HR4.out.1.c0
      have q1 : ∀ w', EOn (fun _ => True) w4 w' → w'.cell? ⟨xb, 1, none⟩ = some (.int .i64 (k4 : Nat)) := fun w' hx => hx.cell trivial HR4.out.1.c1
      by_cases hlt : k4 < s.size
      · have hI : ((k4 : Nat) : Int) < (s.size : Nat) := by omega
        have hdd : decide (k4 < s.size) = true := decide_eq_true hlt
        have hbyte : s[k4] = 32 := by
          cases r with
          | nil =>
            have := congrArg List.length HK4.out.2
            simp only [List.length_drop, List.length_nil, len_eq] at this
            omega
          | cons c r =>
            obtain rfl : c = 32 := HEND.out
            exact byte_at hlt (by rw [drop_get HK4.out.2 k4 (Nat.le_refl _), Nat.sub_self]; rfl)
        have hbb : ((s[k4].toNat : Nat) : Int) = 32 := by rw [hbyte]; rfl
        refine wp_lex (fun _ => True) [true, true, true, true, true, true, true, true, true, true, true, true, true, true, true, true, true, true, true, true, true, true] (by kernel_rfl) (by kernel_rfl) ?_
        repeat first
          | refine wpG_move' ?_
          | refine wpG_assign' ?_
          | refine wpG_val' ?_
          | refine wpG_no' ?_
        clear hbb hbyte hI hdd hlt
        refine wpG_end (fun w7 hx7 => wpList_nil (gQ_normal ?_))
        clear q0 q1
        have HR7 := Lib.hid (And.intro (HR4.out.1.ext hx7) (And.intro (hx7.blk HR4.out.2.1) (HR4.out.2.2.trans (grown_ext hx7 _))))
        have t0 := cell_blk HR7.out.2.1 0
        have t1 := cell_blk HR7.out.2.1 1
        have z0 := frz_blk HR7.out.2.1 0
        have z1 := frz_blk HR7.out.2.1 1
        clear hx7
        go_wp2_with fail
        have b8 := set_blk (set_blk HR7.out.2.1 0 (.int .i32 (lo : Nat))) 1 (.int .i32 (hi2 : Nat))
        have g8 : w7.grownBy _ (some rb) := World.grownBy.trans (grown_cell w7 rb 0 (.int .i32 (lo : Nat))) (grown_cell _ rb 1 (.int .i32 (hi2 : Nat)))
        have HR8 := Lib.hid (And.intro ((g8.block xb (blk_lt HR7.out.1) (fun e => HW.out.1 (Option.some.inj e))).trans HR7.out.1) (HR7.out.2.2.andThen g8 (fun j e => .inl (by cases e; exact HW.out.2))))
        clear t0 t1 z0 z1 g8
        generalize (w7.setCell _ _).setCell _ _ = w8 at b8 HR8 ⊢
        have t0 : w8.cell? ⟨rb, 0, none⟩ = some (.int .i32 (lo : Nat)) := (cell_blk b8 0).trans rfl
        have t1 : w8.cell? ⟨rb, 1, none⟩ = some (.int .i32 (hi2 : Nat)) := (cell_blk b8 1).trans rfl
        clear b8
        exact bodyPost_ret (v := .agg #[.int .i32 (lo : Nat), .int .i32 (hi2 : Nat)]) (by simp [results, Tryz.results102, go_sem, t0, t1]) rfl ⟨rfl, ⟨_, HK4.out.1, by omega, HK4.out.2, HR8.out.1⟩, HR8.out.2⟩
      · have hI : ¬ ((k4 : Nat) : Int) < (s.size : Nat) := by omega
        have hdd : decide (k4 < s.size) = false := decide_eq_false hlt
        refine wp_lex (fun _ => True) [true, true, true, true, true, true, true, true, true, true, true, true, true, true, true, true, true, true, true, true, true, true] (by kernel_rfl) (by kernel_rfl) ?_
        repeat first
          | refine wpG_move' ?_
          | refine wpG_assign' ?_
          | refine wpG_val' ?_
          | refine wpG_no' ?_
        clear hI hdd hlt
        refine wpG_end (fun w7 hx7 => wpList_nil (gQ_normal ?_))
        clear q0 q1
        have HR7 := Lib.hid (And.intro (HR4.out.1.ext hx7) (And.intro (hx7.blk HR4.out.2.1) (HR4.out.2.2.trans (grown_ext hx7 _))))
        have t0 := cell_blk HR7.out.2.1 0
        have t1 := cell_blk HR7.out.2.1 1
        have z0 := frz_blk HR7.out.2.1 0
        have z1 := frz_blk HR7.out.2.1 1
        clear hx7
        go_wp2_with fail
        have b8 := set_blk (set_blk HR7.out.2.1 0 (.int .i32 (lo : Nat))) 1 (.int .i32 (hi2 : Nat))
        have g8 : w7.grownBy _ (some rb) := World.grownBy.trans (grown_cell w7 rb 0 (.int .i32 (lo : Nat))) (grown_cell _ rb 1 (.int .i32 (hi2 : Nat)))
        have HR8 := Lib.hid (And.intro ((g8.block xb (blk_lt HR7.out.1) (fun e => HW.out.1 (Option.some.inj e))).trans HR7.out.1) (HR7.out.2.2.andThen g8 (fun j e => .inl (by cases e; exact HW.out.2))))
        clear t0 t1 z0 z1 g8
        generalize (w7.setCell _ _).setCell _ _ = w8 at b8 HR8 ⊢
        have t0 : w8.cell? ⟨rb, 0, none⟩ = some (.int .i32 (lo : Nat)) := (cell_blk b8 0).trans rfl
        have t1 : w8.cell? ⟨rb, 1, none⟩ = some (.int .i32 (hi2 : Nat)) := (cell_blk b8 1).trans rfl
        clear b8
        exact bodyPost_ret (v := .agg #[.int .i32 (lo : Nat), .int .i32 (hi2 : Nat)]) (by simp [results, Tryz.results102, go_sem, t0, t1]) rfl ⟨rfl, ⟨_, HK4.out.1, by omega, HK4.out.2, HR8.out.1⟩, HR8.out.2⟩
  · rw [if_neg h45] at hi
    split at hi
    case isFalse => cases hi
    rename_i hok
    obtain ⟨rfl, rfl⟩ : x = (lo, lo) ∧ r = r1 := by
      have := Option.some.inj hi
      exact ⟨congrArg Prod.fst this.symm, congrArg Prod.snd this.symm⟩
    clear hi
    have HEND := Lib.hid hok
    clear hok
    have hlh : ((lo : Nat) : Int) ≤ (lo : Nat) := by omega
    by_cases hlt : k1 < s.size
    · have hI : ((k1 : Nat) : Int) < (s.size : Nat) := by omega
      have hdd : decide (k1 < s.size) = true := decide_eq_true hlt
      have hbyte : s[k1] = 32 := by
        cases r with
        | nil =>
          have := congrArg List.length HK1.out.2
          simp only [List.length_drop, List.length_nil, len_eq] at this
          omega
        | cons c r =>
          obtain rfl : c = 32 := HEND.out
          exact byte_at hlt (by rw [drop_get HK1.out.2 k1 (Nat.le_refl _), Nat.sub_self]; rfl)
      have hbb : ((s[k1].toNat : Nat) : Int) = 32 := by rw [hbyte]; rfl
      go_wp2_with fail
      refine wp_lex (fun _ => True) [true, true, true, true, true, true, true, true, true, true, true, true, true, true, true, true, true, true, true, true, true, true] (by kernel_rfl) (by kernel_rfl) ?_
      repeat first
        | refine wpG_move' ?_
        | refine wpG_assign' ?_
        | refine wpG_val' ?_
        | refine wpG_no' ?_
      clear hbb hbyte hI hdd hlt
      refine wpG_end (fun w4 hx4 => wpList_nil (gQ_normal ?_))
      clear q0 q1
      have HR4 := Lib.hid (And.intro (HR1.out.1.ext hx4) (And.intro (hx4.blk HR1.out.2.1) (HR1.out.2.2.trans (grown_ext hx4 _))))
      clear hx4
      go_wp2_with fail
      have q0 : ∀ w', EOn (fun _ => True) w4 w' → w'.cell? ⟨xb, 0, none⟩ = some (.string s) := fun w' hx => hx.cell trivial HR4.out.1.c0
      have q1 : ∀ w', EOn (fun _ => True) w4 w' → w'.cell? ⟨xb, 1, none⟩ = some (.int .i64 (k1 : Nat)) := fun w' hx => hx.cell trivial HR4.out.1.c1
      by_cases hlt : k1 < s.size
      · have hI : ((k1 : Nat) : Int) < (s.size : Nat) := by omega
        have hdd : decide (k1 < s.size) = true := decide_eq_true hlt
        have hbyte : s[k1] = 32 := by
          cases r with
          | nil =>
            have := congrArg List.length HK1.out.2
            simp only [List.length_drop, List.length_nil, len_eq] at this
            omega
          | cons c r =>
            obtain rfl : c = 32 := HEND.out
            exact byte_at hlt (by rw [drop_get HK1.out.2 k1 (Nat.le_refl _), Nat.sub_self]; rfl)
        have hbb : ((s[k1].toNat : Nat) : Int) = 32 := by rw [hbyte]; rfl
        refine wp_lex (fun _ => True) [true, true, true, true, true, true, true, true, true, true, true, true, true, true, true, true, true, true, true, true, true, true] (by kernel_rfl) (by kernel_rfl) ?_
        repeat first
          | refine wpG_move' ?_
          | refine wpG_assign' ?_
          | refine wpG_val' ?_
          | refine wpG_no' ?_
        clear hbb hbyte hI hdd hlt
        refine wpG_end (fun w7 hx7 => wpList_nil (gQ_normal ?_))
        clear q0 q1
        have HR7 := Lib.hid (And.intro (HR4.out.1.ext hx7) (And.intro (hx7.blk HR4.out.2.1) (HR4.out.2.2.trans (grown_ext hx7 _))))
        have t0 := cell_blk HR7.out.2.1 0
        have t1 := cell_blk HR7.out.2.1 1
        have z0 := frz_blk HR7.out.2.1 0
        have z1 := frz_blk HR7.out.2.1 1
        clear hx7
        go_wp2_with fail
        have b8 := set_blk (set_blk HR7.out.2.1 0 (.int .i32 (lo : Nat))) 1 (.int .i32 (lo : Nat))
        have g8 : w7.grownBy _ (some rb) := World.grownBy.trans (grown_cell w7 rb 0 (.int .i32 (lo : Nat))) (grown_cell _ rb 1 (.int .i32 (lo : Nat)))
        have HR8 := Lib.hid (And.intro ((g8.block xb (blk_lt HR7.out.1) (fun e => HW.out.1 (Option.some.inj e))).trans HR7.out.1) (HR7.out.2.2.andThen g8 (fun j e => .inl (by cases e; exact HW.out.2))))
        clear t0 t1 z0 z1 g8
        generalize (w7.setCell _ _).setCell _ _ = w8 at b8 HR8 ⊢
        have t0 : w8.cell? ⟨rb, 0, none⟩ = some (.int .i32 (lo : Nat)) := (cell_blk b8 0).trans rfl
        have t1 : w8.cell? ⟨rb, 1, none⟩ = some (.int .i32 (lo : Nat)) := (cell_blk b8 1).trans rfl
        clear b8
        exact bodyPost_ret (v := .agg #[.int .i32 (lo : Nat), .int .i32 (lo : Nat)]) (by simp [results, Tryz.results102, go_sem, t0, t1]) rfl ⟨rfl, ⟨_, HK1.out.1, by omega, HK1.out.2, HR8.out.1⟩, HR8.out.2⟩
      · have hI : ¬ ((k1 : Nat) : Int) < (s.size : Nat) := by omega
        have hdd : decide (k1 < s.size) = false := decide_eq_false hlt
        refine wp_lex (fun _ => True) [true, true, true, true, true, true, true, true, true, true, true, true, true, true, true, true, true, true, true, true, true, true] (by kernel_rfl) (by kernel_rfl) ?_
        repeat first
          | refine wpG_move' ?_
          | refine wpG_assign' ?_
          | refine wpG_val' ?_
          | refine wpG_no' ?_
        clear hI hdd hlt
        refine wpG_end (fun w7 hx7 => wpList_nil (gQ_normal ?_))
        clear q0 q1
        have HR7 := Lib.hid (And.intro (HR4.out.1.ext hx7) (And.intro (hx7.blk HR4.out.2.1) (HR4.out.2.2.trans (grown_ext hx7 _))))
        have t0 := cell_blk HR7.out.2.1 0
        have t1 := cell_blk HR7.out.2.1 1
        have z0 := frz_blk HR7.out.2.1 0
        have z1 := frz_blk HR7.out.2.1 1
        clear hx7
        go_wp2_with fail
        have b8 := set_blk (set_blk HR7.out.2.1 0 (.int .i32 (lo : Nat))) 1 (.int .i32 (lo : Nat))
        have g8 : w7.grownBy _ (some rb) := World.grownBy.trans (grown_cell w7 rb 0 (.int .i32 (lo : Nat))) (grown_cell _ rb 1 (.int .i32 (lo : Nat)))
        have HR8 := Lib.hid (And.intro ((g8.block xb (blk_lt HR7.out.1) (fun e => HW.out.1 (Option.some.inj e))).trans HR7.out.1) (HR7.out.2.2.andThen g8 (fun j e => .inl (by cases e; exact HW.out.2))))
        clear t0 t1 z0 z1 g8
        generalize (w7.setCell _ _).setCell _ _ = w8 at b8 HR8 ⊢
        have t0 : w8.cell? ⟨rb, 0, none⟩ = some (.int .i32 (lo : Nat)) := (cell_blk b8 0).trans rfl
        have t1 : w8.cell? ⟨rb, 1, none⟩ = some (.int .i32 (lo : Nat)) := (cell_blk b8 1).trans rfl
        clear b8
        exact bodyPost_ret (v := .agg #[.int .i32 (lo : Nat), .int .i32 (lo : Nat)]) (by simp [results, Tryz.results102, go_sem, t0, t1]) rfl ⟨rfl, ⟨_, HK1.out.1, by omega, HK1.out.2, HR8.out.1⟩, HR8.out.2⟩
    · have hI : ¬ ((k1 : Nat) : Int) < (s.size : Nat) := by omega
      have hdd : decide (k1 < s.size) = false := decide_eq_false hlt
      go_wp2_with fail
      refine wp_lex (fun _ => True) [true, true, true, true, true, true, true, true, true, true, true, true, true, true, true, true, true, true, true, true, true, true] (by kernel_rfl) (by kernel_rfl) ?_
      repeat first
        | refine wpG_move' ?_
        | refine wpG_assign' ?_
        | refine wpG_val' ?_
        | refine wpG_no' ?_
      clear hI hdd hlt
      refine wpG_end (fun w4 hx4 => wpList_nil (gQ_normal ?_))
      clear q0 q1
      have HR4 := Lib.hid (And.intro (HR1.out.1.ext hx4) (And.intro (hx4.blk HR1.out.2.1) (HR1.out.2.2.trans (grown_ext hx4 _))))
      clear hx4
      go_wp2_with fail
      have q0 : ∀ w', EOn (fun _ => True) w4 w' → w'.cell? ⟨xb, 0, none⟩ = some (.string s) := fun w' hx => hx.cell trivial HR4.out.1.c0
      have q1 : ∀ w', EOn (fun _ => True) w4 w' → w'.cell? ⟨xb, 1, none⟩ = some (.int .i64 (k1 : Nat)) := fun w' hx => hx.cell trivial HR4.out.1.c1
      by_cases hlt : k1 < s.size
      · have hI : ((k1 : Nat) : Int) < (s.size : Nat) := by omega
        have hdd : decide (k1 < s.size) = true := decide_eq_true hlt
        have hbyte : s[k1] = 32 := by
          cases r with
          | nil =>
            have := congrArg List.length HK1.out.2
            simp only [List.length_drop, List.length_nil, len_eq] at this
            omega
          | cons c r =>
            obtain rfl : c = 32 := HEND.out
            exact byte_at hlt (by rw [drop_get HK1.out.2 k1 (Nat.le_refl _), Nat.sub_self]; rfl)
        have hbb : ((s[k1].toNat : Nat) : Int) = 32 := by rw [hbyte]; rfl
        refine wp_lex (fun _ => True) [true, true, true, true, true, true, true, true, true, true, true, true, true, true, true, true, true, true, true, true, true, true] (by kernel_rfl) (by kernel_rfl) ?_
        repeat first
          | refine wpG_move' ?_
          | refine wpG_assign' ?_
          | refine wpG_val' ?_
          | refine wpG_no' ?_
        clear hbb hbyte hI hdd hlt
        refine wpG_end (fun w7 hx7 => wpList_nil (gQ_normal ?_))
        clear q0 q1
        have HR7 := Lib.hid (And.intro (HR4.out.1.ext hx7) (And.intro (hx7.blk HR4.out.2.1) (HR4.out.2.2.trans (grown_ext hx7 _))))
        have t0 := cell_blk HR7.out.2.1 0
        have t1 := cell_blk HR7.out.2.1 1
        have z0 := frz_blk HR7.out.2.1 0
        have z1 := frz_blk HR7.out.2.1 1
        clear hx7
        go_wp2_with fail
        have b8 := set_blk (set_blk HR7.out.2.1 0 (.int .i32 (lo : Nat))) 1 (.int .i32 (lo : Nat))
        have g8 : w7.grownBy _ (some rb) := World.grownBy.trans (grown_cell w7 rb 0 (.int .i32 (lo : Nat))) (grown_cell _ rb 1 (.int .i32 (lo : Nat)))
        have HR8 := Lib.hid (And.intro ((g8.block xb (blk_lt HR7.out.1) (fun e => HW.out.1 (Option.some.inj e))).trans HR7.out.1) (HR7.out.2.2.andThen g8 (fun j e => .inl (by cases e; exact HW.out.2))))
        clear t0 t1 z0 z1 g8
        generalize (w7.setCell _ _).setCell _ _ = w8 at b8 HR8 ⊢
        have t0 : w8.cell? ⟨rb, 0, none⟩ = some (.int .i32 (lo : Nat)) := (cell_blk b8 0).trans rfl
        have t1 : w8.cell? ⟨rb, 1, none⟩ = some (.int .i32 (lo : Nat)) := (cell_blk b8 1).trans rfl
        clear b8
        exact bodyPost_ret (v := .agg #[.int .i32 (lo : Nat), .int .i32 (lo : Nat)]) (by simp [results, Tryz.results102, go_sem, t0, t1]) rfl ⟨rfl, ⟨_, HK1.out.1, by omega, HK1.out.2, HR8.out.1⟩, HR8.out.2⟩
      · have hI : ¬ ((k1 : Nat) : Int) < (s.size : Nat) := by omega
        have hdd : decide (k1 < s.size) = false := decide_eq_false hlt
        refine wp_lex (fun _ => True) [true, true, true, true, true, true, true, true, true, true, true, true, true, true, true, true, true, true, true, true, true, true] (by kernel_rfl) (by kernel_rfl) ?_
        repeat first
          | refine wpG_move' ?_
          | refine wpG_assign' ?_
          | refine wpG_val' ?_
          | refine wpG_no' ?_
        clear hI hdd hlt
        refine wpG_end (fun w7 hx7 => wpList_nil (gQ_normal ?_))
        clear q0 q1
        have HR7 := Lib.hid (And.intro (HR4.out.1.ext hx7) (And.intro (hx7.blk HR4.out.2.1) (HR4.out.2.2.trans (grown_ext hx7 _))))
        have t0 := cell_blk HR7.out.2.1 0
        have t1 := cell_blk HR7.out.2.1 1
        have z0 := frz_blk HR7.out.2.1 0
        have z1 := frz_blk HR7.out.2.1 1
        clear hx7
        go_wp2_with fail
        have b8 := set_blk (set_blk HR7.out.2.1 0 (.int .i32 (lo : Nat))) 1 (.int .i32 (lo : Nat))
        have g8 : w7.grownBy _ (some rb) := World.grownBy.trans (grown_cell w7 rb 0 (.int .i32 (lo : Nat))) (grown_cell _ rb 1 (.int .i32 (lo : Nat)))
        have HR8 := Lib.hid (And.intro ((g8.block xb (blk_lt HR7.out.1) (fun e => HW.out.1 (Option.some.inj e))).trans HR7.out.1) (HR7.out.2.2.andThen g8 (fun j e => .inl (by cases e; exact HW.out.2))))
        clear t0 t1 z0 z1 g8
        generalize (w7.setCell _ _).setCell _ _ = w8 at b8 HR8 ⊢
        have t0 : w8.cell? ⟨rb, 0, none⟩ = some (.int .i32 (lo : Nat)) := (cell_blk b8 0).trans rfl
        have t1 : w8.cell? ⟨rb, 1, none⟩ = some (.int .i32 (lo : Nat)) := (cell_blk b8 1).trans rfl
        clear b8
        exact bodyPost_ret (v := .agg #[.int .i32 (lo : Nat), .int .i32 (lo : Nat)]) (by simp [results, Tryz.results102, go_sem, t0, t1]) rfl ⟨rfl, ⟨_, HK1.out.1, by omega, HK1.out.2, HR8.out.1⟩, HR8.out.2⟩
end Go.Proofs.YtlmkbldiicbejaaGreatDoor
