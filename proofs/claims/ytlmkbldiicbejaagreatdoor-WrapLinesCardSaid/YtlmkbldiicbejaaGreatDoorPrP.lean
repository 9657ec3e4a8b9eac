/-
  The set of a spelling.
-/
import Derived.Test.YtlmkbldiicbejaaGreatDoorPrKN
import Derived.Defers
import Derived.Recover
import Derived.Scope
import Derived.WalkMore
namespace Go.Proofs.YtlmkbldiicbejaaGreatDoor
open Go.RowKit Go.Rp Go.Maps Go.Cl Go.Shelf

theorem c_idle (p q r : Addr) (w : World) :
    CallsD Tryz.prog 101 #[.pointer (some p), .pointer (some q), .pointer (some r)] .returning w fun e u' w' => e = .returned (.tuple #[]) ∧ u' = .returning ∧ w' = w := by
  refine callsD_of_wpS Tryz.func101 rfl fun c₀ cs hu => ?_
  apply wpS_seq
  apply wpS_region
  simp [wpOpsS, go_sem, recoverD, hu, Tryz.ntmps101, Exit.thenS]
  apply wpS_seq
  apply wpS_region
  simp [wpOpsS, go_sem, Exit.thenS]
  refine wpS_cond (t := false) (by simp [Act.eval, Array.replicate]) ?_
  simp only [Bool.false_eq_true, if_false]
  refine wpS_of_wp (wp_skip ?_)
  cases c₀
  simp_all [bodyPostS, results, Tryz.results101]
/-- A row of ranges of somebody's own. -/
def OwnR (W : World) (u : Value) (l : List (Nat × Nat)) : Prop := ∃ B, W.ownsRow B 139 2 u l.length (rgW l)
/-- A reading, as it stands: the ranges so far; where the reader is. -/
structure PrSt (w W1 : World) (lb eb ab xb : Nat) (s : ByteArray) (W : World) (lv : Value) (D : List (Nat × Nat)) (k : Nat) : Prop where
  l : W.heap[lb]? = some (.cells #[lv] 130 (0, 0))
  e : W.heap[eb]? = some (.cells #[.int .i64 0] 26 (0, 0))
  a : W.heap[ab]? = some (.cells #[.int .i64 0] 3 (0, 0))
  r : RdAt W xb s k
  own : W.ownsRow W1.heap.size 139 2 lv D.length (rgW D)
  x : Ext w W
  sz : W1.heap.size ≤ W.heap.size
theorem PrSt.ext {w W1 : World} {lb eb ab xb : Nat} {s : ByteArray} {W W' : World} {lv : Value} {D : List (Nat × Nat)} {k : Nat} (h : PrSt w W1 lb eb ab xb s W lv D k) (hx : Ext W W') : PrSt w W1 lb eb ab xb s W' lv D k :=
  ⟨hx.blk h.l, hx.blk h.e, hx.blk h.a, h.r.ext hx, ownsRow_ext h.own hx, h.x.trans hx, Nat.le_trans h.sz hx.sz⟩
/-- Where the blocks lie. -/
structure PrBl (w W1 : World) (lb eb ab xb : Nat) : Prop where
  l : w.heap.size ≤ lb ∧ lb < W1.heap.size
  e : w.heap.size ≤ eb ∧ eb < W1.heap.size
  a : w.heap.size ≤ ab ∧ ab < W1.heap.size
  x : w.heap.size ≤ xb ∧ xb < W1.heap.size
  n : lb ≠ eb ∧ lb ≠ ab ∧ lb ≠ xb ∧ eb ≠ ab ∧ eb ≠ xb ∧ ab ≠ xb
theorem PrSt.low {w W1 : World} {lb eb ab xb : Nat} {s : ByteArray} {W : World} {lv : Value} {D : List (Nat × Nat)} {k b : Nat} (h : PrSt w W1 lb eb ab xb s W lv D k) (hb : b < W1.heap.size) : some b ≠ lv.ownBlock := fun e => by
  have := (h.own.lt b e.symm).1
  omega
theorem PrSt.read {w W1 : World} {lb eb ab xb : Nat} {s : ByteArray} {W W' : World} {lv : Value} {D : List (Nat × Nat)} {k k' : Nat} (h : PrSt w W1 lb eb ab xb s W lv D k) (hB : PrBl w W1 lb eb ab xb) (hg : W.grownBy W' (some xb)) (hr : RdAt W' xb s k') : PrSt w W1 lb eb ab xb s W' lv D k' :=
  ⟨(hg.block lb (blk_lt h.l) (fun e => hB.n.2.2.1 (Option.some.inj e))).trans h.l, (hg.block eb (blk_lt h.e) (fun e => hB.n.2.2.2.2.1 (Option.some.inj e))).trans h.e, (hg.block ab (blk_lt h.a) (fun e => hB.n.2.2.2.2.2 (Option.some.inj e))).trans h.a, hr,
    h.own.kept hg (.inr fun e => h.low hB.x.2 e.symm), Below.grown h.x hg h.x.sz (fun j e => by cases e; exact hB.x.1), Nat.le_trans h.sz hg.size⟩
theorem PrSt.setL {w W1 : World} {lb eb ab xb : Nat} {s : ByteArray} {W W' : World} {lv lv' : Value} {D D' : List (Nat × Nat)} {k : Nat} (h : PrSt w W1 lb eb ab xb s W lv D k) (hB : PrBl w W1 lb eb ab xb) (hg : W.grownBy W' lv.ownBlock) (ho : W'.ownsRow W1.heap.size 139 2 lv' D'.length (rgW D')) :
    PrSt w W1 lb eb ab xb s (W'.setCell ⟨lb, 0, none⟩ lv') lv' D' k := by
  have hg2 := grown_cell W' lb 0 lv'
  have hl : W'.heap[lb]? = some (.cells #[lv] 130 (0, 0)) := (hg.block lb (blk_lt h.l) (h.low hB.l.2)).trans h.l
  have he : W'.heap[eb]? = some (.cells #[.int .i64 0] 26 (0, 0)) := (hg.block eb (blk_lt h.e) (h.low hB.e.2)).trans h.e
  have ha : W'.heap[ab]? = some (.cells #[.int .i64 0] 3 (0, 0)) := (hg.block ab (blk_lt h.a) (h.low hB.a.2)).trans h.a
  have hr : RdAt W' xb s k := (hg.block xb (blk_lt h.r) (h.low hB.x.2)).trans h.r
  have hx : Ext w W' := Below.grown h.x hg h.x.sz (fun j e => Nat.le_trans (Nat.le_trans hB.l.1 (Nat.le_of_lt hB.l.2)) (h.own.lt j e).1)
  refine ⟨set_blk hl 0 lv', (hg2.block eb (blk_lt he) (fun e => hB.n.1 (Option.some.inj e).symm)).trans he, (hg2.block ab (blk_lt ha) (fun e => hB.n.2.1 (Option.some.inj e).symm)).trans ha, (hg2.block xb (blk_lt hr) (fun e => hB.n.2.2.1 (Option.some.inj e).symm)).trans hr, ho.kept hg2 (.inr fun e => ?_), hx.setCell hB.l.1 lv', Nat.le_trans (Nat.le_trans h.sz hg.size) hg2.size⟩
  have := (ho.lt lb e).1
  have := hB.l.2
  omega
set_option maxRecDepth 100000 in
set_option maxHeartbeats 4000000 in
theorem c_Parse (s : ByteArray) (L : List (Nat × Nat)) (w : World) (hs : s.size ≤ 100000) (hp : parseP s.size s.data.toList = some L) (hok : RgsOk L) :
    Calls Tryz.prog 72 #[.string s] w fun e w' => ∃ u, e = .returned (.tuple #[u, .int .i64 0, .int .i64 0]) ∧ OwnR w' u (normR L) ∧ Ext w w' := by
  have hmf : ∀ (fn : Fn) (first cap : Array Value) (w : World), (Instr.makeFunc fn first cap).run Tryz.prog w = .ok (.func fn first cap) w := fun _ _ _ _ => rfl
  go_enter_defers Tryz.func72, Tryz.ntmps72
  go_wp2_with fail
  refine wp_scope_straight ?_
  go_wp2_with fail
  have HP := Lib.hid hp
  have HOK := Lib.hid hok
  clear hp hok
  have hX1 := ((((Ext.refl w).alloc (.cells #[.slice none 0 0] 130)).alloc (.cells #[.int .i64 0] 26)).alloc (.cells #[.int .i64 0] 3)).alloc (.cells #[.string s, .int .i64 0] 172)
  have n0 := World.alloc_heap_new w (.cells #[.slice none 0 0] 130)
  have z0 := World.size_alloc w (.cells #[.slice none 0 0] 130)
  generalize w.alloc (.cells #[.slice none 0 0] 130) = A0 at hX1 n0 z0 ⊢
  have n1 := World.alloc_heap_new A0 (.cells #[.int .i64 0] 26)
  have z1 := World.size_alloc A0 (.cells #[.int .i64 0] 26)
  replace n0 := ((Ext.refl A0).alloc (.cells #[.int .i64 0] 26)).blk n0
  generalize A0.alloc (.cells #[.int .i64 0] 26) = A1 at hX1 n0 n1 z1 ⊢
  have n2 := World.alloc_heap_new A1 (.cells #[.int .i64 0] 3)
  have z2 := World.size_alloc A1 (.cells #[.int .i64 0] 3)
  replace n0 := ((Ext.refl A1).alloc (.cells #[.int .i64 0] 3)).blk n0
  replace n1 := ((Ext.refl A1).alloc (.cells #[.int .i64 0] 3)).blk n1
  generalize A1.alloc (.cells #[.int .i64 0] 3) = A2 at hX1 n0 n1 n2 z2 ⊢
  have n3 := World.alloc_heap_new A2 (.cells #[.string s, .int .i64 0] 172)
  have z3 := World.size_alloc A2 (.cells #[.string s, .int .i64 0] 172)
  replace n0 := ((Ext.refl A2).alloc (.cells #[.string s, .int .i64 0] 172)).blk n0
  replace n1 := ((Ext.refl A2).alloc (.cells #[.string s, .int .i64 0] 172)).blk n1
  replace n2 := ((Ext.refl A2).alloc (.cells #[.string s, .int .i64 0] 172)).blk n2
  generalize A2.alloc (.cells #[.string s, .int .i64 0] 172) = W1 at hX1 n0 n1 n2 n3 z3 ⊢
  rw [z0] at n1 z1
  rw [z1] at n2 z2
  rw [z2] at n3 z3
  have HBL := Lib.hid (show PrBl w W1 w.heap.size (w.heap.size + 1) (w.heap.size + 1 + 1) (w.heap.size + 1 + 1 + 1) from ⟨⟨Nat.le_refl _, by omega⟩, ⟨by omega, by omega⟩, ⟨by omega, by omega⟩, ⟨by omega, by omega⟩, by omega, by omega, by omega, by omega, by omega, by omega⟩)
  have HST := Lib.hid (show PrSt w W1 w.heap.size (w.heap.size + 1) (w.heap.size + 1 + 1) (w.heap.size + 1 + 1 + 1) s W1 (.slice none 0 0) [] 0 from ⟨n0, n1, n2, n3, World.ownsRow_nil _ _ _ _, hX1, Nat.le_refl _⟩)
  clear n0 n1 n2 n3 z0 z1 z2 z3 hX1
  generalize w.heap.size + 1 + 1 + 1 = xb at HBL HST ⊢
  generalize w.heap.size + 1 + 1 = ab at HBL HST ⊢
  generalize w.heap.size + 1 = eb at HBL HST ⊢
  obtain ⟨lb, hlb⟩ : ∃ lb, w.heap.size = lb := ⟨_, rfl⟩
  rw [hlb] at HBL HST
  simp only [hlb]
  clear hlb
  refine wp_label ?_
  go_wp2_with fail
  go_loopw [] (fun W => ∃ (k : Nat) (lv : Value) (D R : List (Nat × Nat)) (n : Nat), k ≤ s.size ∧ Hid (PrSt w W1 lb eb ab xb s W lv D k) ∧ Hid (parseP n (s.data.toList.drop k) = some R) ∧ Hid (D ++ R = L)) (fun W => s.size + 1 - boxN xb 1 W)
  case atStart => exact ⟨0, .slice none 0 0, [], L, s.size, Nat.zero_le _, HST, HP, Lib.hid rfl⟩
  case round =>
    obtain ⟨k, lv, D, R, n, hk, HS, HR, HD⟩ := hrel
    obtain ⟨W, rfl⟩ : ∃ W, W = wr := ⟨_, rfl⟩
    have f1 := HS.out.r.c1
    have f2 := HS.out.r.fz 1
    have HBX := Lib.hid HS.out.r.box
    by_cases hlt : k < s.size
    · have hI : ((k : Nat) : Int) < (s.size : Nat) := by omega
      have hne : ¬ ((k : Nat) : Int) = (s.size : Nat) := by omega
      have hdd : (((k : Nat) : Int) == (s.size : Nat)) = false := beq_false_of_ne hne
      have hdr : s.data.toList.drop k = s[k] :: s.data.toList.drop (k + 1) := List.drop_eq_getElem_cons (by rw [len_eq]; exact hlt)
      have hpr := HR.out
      rw [hdr] at hpr
      obtain ⟨n, rfl⟩ : ∃ m, n = m + 1 := by
        cases n with
        | zero => simp [parseP] at hpr
        | succ m => exact ⟨m, rfl⟩
      rw [parseP, if_neg (by simp)] at hpr
      by_cases h32 : s[k] = 32
      · have hbb : ((s[k].toNat : Nat) : Int) = 32 := by rw [h32]; rfl
        rw [if_pos (by rw [List.headD_cons]; exact h32), List.tail_cons] at hpr
        have HPR := Lib.hid hpr
        clear hpr hdr h32
        go_wp2_with fail
        have hst := HS.out.r.set (k + 1)
        rw [show ((k + 1 : Nat) : Int) = (k : Nat) + 1 from by omega] at hst
        have h9 := HS.out.read HBL.out (grown_cell W xb 1 (.int .i64 ((k : Nat) + 1))) hst
        exact ⟨⟨k + 1, lv, D, R, n, by omega, Lib.hid h9, HPR, HD⟩, by rw [hst.box, HBX.out]; omega⟩
      · have hbn : ¬ ((s[k].toNat : Nat) : Int) = 32 := fun e => h32 (UInt8.toNat.inj (by have : s[k].toNat = 32 := by omega
                                                                                          rw [this]; rfl))
        have hbb : (((s[k].toNat : Nat) : Int) == 32) = false := beq_false_of_ne hbn
        rw [if_neg (by rw [List.headD_cons]; exact h32)] at hpr
        split at hpr
        · cases hpr
        rename_i x r hit
        rw [← hdr] at hit
        obtain ⟨R', hR', rfl⟩ : ∃ R', parseP n r = some R' ∧ R = x :: R' := by
          cases h : parseP n r with
          | none => rw [h] at hpr; cases hpr
          | some R' => rw [h] at hpr; exact ⟨R', rfl, (Option.some.inj hpr).symm⟩
        have HIT := Lib.hid (And.intro hit hR')
        clear hpr hdr hit hR' h32
        go_wp2_with fail
        clear hbb hbn
        have q0 : ∀ w', EOn (fun a => a.block ≠ xb ∧ some a.block ≠ lv.ownBlock) W w' → w'.cell? ⟨lb, 0, none⟩ = some lv := fun w' hx => hx.cell ⟨HBL.out.n.2.2.1, HS.out.low HBL.out.l.2⟩ ((cell_blk HS.out.l 0).trans rfl)
        refine wp_lex ((fun a => a.block ≠ xb ∧ some a.block ≠ lv.ownBlock)) [true, true, false, false, false] (by kernel_rfl) (by kernel_rfl) ?_
        repeat first
          | refine wpG_move' ?_
          | refine wpG_assign' ?_
          | refine wpG_val' ?_
          | refine wpG_no' ?_
        clear q0
        refine wpG_do (by rfl) (fun w5 hx5 K hK => ?_)
        go_wp2_with fail
        have HS5 := Lib.hid (HS.out.ext hx5)
        refine (c_ritem xb s k x r w5 HS5.out.r hs HIT.out.1).mono ?_
        rintro e w6 ⟨rfl, ⟨k', hk1, hk2, hkr, hr6⟩, hg6⟩
        refine hK _ _ ⟨EOn.of_grown hg6 (fun a ha _ e => ha.1 (Option.some.inj e)), ?_⟩
        have HS6 := Lib.hid (HS5.out.read HBL.out hg6 hr6)
        have HKR := Lib.hid (And.intro hk1 hkr)
        clear hK hg6 hr6 hx5 HS5 hkr hk1
        refine wpG_do (by rfl) (fun w7 hx7 K hK => ?_)
        go_wp2_with fail
        refine ⟨EOn.of_ext ((Ext.refl w7).alloc _), ?_⟩
        have HS7 := Lib.hid (HS6.out.ext hx7)
        have hnew := World.alloc_heap_new w7 (.cells #[.int .i32 (x.1 : Nat), .int .i32 (x.2 : Nat)] 139)
        have HS8 := Lib.hid (HS7.out.ext ((Ext.refl w7).alloc (.cells #[.int .i32 (x.1 : Nat), .int .i32 (x.2 : Nat)] 139)))
        generalize w7.alloc (.cells #[.int .i32 (x.1 : Nat), .int .i32 (x.2 : Nat)] 139) = w8 at hnew HS8 ⊢
        generalize w7.heap.size = gb at hnew ⊢
        clear HS7 HS6 hx7
        have HDL := Lib.hid (show D.length ≤ 10000 by have h1 := HOK.out.len; have h2 := congrArg List.length HD.out; rw [List.length_append] at h2; omega)
        obtain ⟨i0, hi0, hz0, hz1, hz3⟩ := info_parts Tryz.infoRg
        refine wpG_push rfl (fun a w h => by obtain ⟨_, e, _⟩ := h; cases e) (.tmp 10) (.tmp 13) 130 rfl 139 i0 (.agg #[.int .i32 0, .int .i32 0]) 2 8 Tryz.underlying130 hi0 hz0 hz1 hz3 rfl (by decide) rfl HS8.out.own HS8.out.sz [.int .i32 (x.1 : Nat), .int .i32 (x.2 : Nat)] gb 0 1 1 rfl rfl (fun j hj => by
          match j, hj with
          | 0, _ => exact (cell_blk hnew 0).trans rfl
          | 1, _ => exact (cell_blk hnew 1).trans rfl) (by intro u hu; simp at hu; rcases hu with rfl | rfl <;> rfl) (fun ad hS e => hS.2 e.symm) (by have := HDL.out; omega) (by decide) ?_
        intro v' w9 w10 hx9 g1 g2 g4
        have HS9 := Lib.hid (HS8.out.ext hx9)
        have HG := Lib.hid (And.intro (show w10.ownsRow W1.heap.size 139 2 v' (D ++ [x]).length (rgW (D ++ [x])) by rw [rgW_app, List.length_append]; exact g1) g2)
        clear g1 g2 g4 hx9 hnew HS8
        obtain ⟨pv, cv, rfl⟩ := own_slice HG.out.1
        refine wpG_end (fun w11 hx11 => ?_)
        have HG11 := Lib.hid (And.intro (ownsRow_ext HG.out.1 hx11) (HG.out.2.trans (grown_ext hx11 _)))
        clear hx11 HG
        have l0 : w11.cell? ⟨lb, 0, none⟩ = some lv := (cell_blk ((HG11.out.2.block lb (blk_lt HS9.out.l) (HS9.out.low HBL.out.l.2)).trans HS9.out.l) 0).trans rfl
        have l1 : w11.frozen? ⟨lb, 0, none⟩ = false := frz_blk ((HG11.out.2.block lb (blk_lt HS9.out.l) (HS9.out.low HBL.out.l.2)).trans HS9.out.l) 0
        go_wp2_with fail
        refine gQ_normal ?_
        go_wp2_with fail
        have h12 := HS9.out.setL HBL.out HG11.out.2 HG11.out.1
        rw [show (D ++ [x]).length = D.length + 1 by simp] at h12
        exact ⟨⟨k', _, D ++ [x], R', n, hk2, Lib.hid h12, Lib.hid (by rw [HKR.out.2]; exact HIT.out.2), Lib.hid (by rw [List.append_assoc]; exact HD.out)⟩, by rw [h12.r.box, HBX.out]; have := HKR.out.1; omega⟩
    · have hI : ¬ ((k : Nat) : Int) < (s.size : Nat) := by omega
      obtain rfl : k = s.size := by omega
      have hRD : R = [] := by
        have := HR.out
        rw [List.drop_of_length_le (by rw [len_eq]; exact Nat.le_refl _)] at this
        cases n with
        | zero => simpa [parseP] using this.symm
        | succ n => simpa [parseP] using this.symm
      have HDE := Lib.hid (show D = L by have := HD.out; rw [hRD, List.append_nil] at this; exact this)
      clear hRD hlt
      have l0 := (cell_blk HS.out.l 0).trans rfl
      obtain ⟨pl, cl, rfl⟩ := own_slice HS.out.own
      go_wp2_with fail
      refine (c_Norm (.slice pl D.length cl) D W (RRow.of_own HS.out.own) (by rw [HDE.out]; exact HOK.out)).mono ?_
      rintro e w2 ⟨u, rfl, hu, hx2⟩
      obtain ⟨pu, cu, rfl⟩ := own_slice hu
      have HU := Lib.hid (And.intro hu hx2)
      have HS2 := Lib.hid (HS.out.ext hx2)
      clear hu hx2
      have l0 := cell_blk HS2.out.l 0
      have l1 := frz_blk HS2.out.l 0
      have m0 := cell_blk HS2.out.e 0
      have m1 := frz_blk HS2.out.e 0
      have o0 := cell_blk HS2.out.a 0
      have o1 := frz_blk HS2.out.a 0
      have N1 : ¬ lb = eb := HBL.out.n.1
      have N2 : ¬ eb = lb := fun e => N1 e.symm
      have N3 : ¬ lb = ab := HBL.out.n.2.1
      have N4 : ¬ ab = lb := fun e => N3 e.symm
      have N5 : ¬ eb = ab := HBL.out.n.2.2.2.1
      have N6 : ¬ ab = eb := fun e => N5 e.symm
      go_wp2_with fail
      have hs2 := HS2.out
      have g1 := grown_cell w2 lb 0 (.slice pu (normR D).length cu)
      have hb1 := set_blk hs2.l 0 (.slice pu (normR D).length cu)
      have he1 := (g1.block eb (blk_lt hs2.e) (fun e => N2 (Option.some.inj e))).trans hs2.e
      have ha1 := (g1.block ab (blk_lt hs2.a) (fun e => N4 (Option.some.inj e))).trans hs2.a
      have hr1 := HU.out.1.kept g1 (.inr fun e => by
        have h1 := (HU.out.1.lt lb e).1
        have h2 := HBL.out.l.2
        have h3 := HS.out.sz
        omega)
      have hX1 := hs2.x.setCell (p := ⟨lb, 0, none⟩) HBL.out.l.1 (.slice pu (normR D).length cu)
      generalize w2.setCell ⟨lb, 0, none⟩ (.slice pu (normR D).length cu) = w3 at hb1 he1 ha1 hr1 hX1 ⊢
      have g2 := grown_cell w3 eb 0 (.int .i64 0)
      have hb2 := (g2.block lb (blk_lt hb1) (fun e => N1 (Option.some.inj e))).trans hb1
      have he2 := set_blk he1 0 (.int .i64 0)
      have ha2 := (g2.block ab (blk_lt ha1) (fun e => N6 (Option.some.inj e))).trans ha1
      have hr2 := hr1.kept g2 (.inr fun e => by
        have h1 := (hr1.lt eb e).1
        have h2 := HBL.out.e.2
        have h3 := HS.out.sz
        omega)
      have hX2 := hX1.setCell (p := ⟨eb, 0, none⟩) HBL.out.e.1 (.int .i64 0)
      generalize w3.setCell ⟨eb, 0, none⟩ (.int .i64 0) = w4 at hb2 he2 ha2 hr2 hX2 ⊢
      have g3 := grown_cell w4 ab 0 (.int .i64 0)
      have hb3 := (g3.block lb (blk_lt hb2) (fun e => N3 (Option.some.inj e))).trans hb2
      have he3 := (g3.block eb (blk_lt he2) (fun e => N5 (Option.some.inj e))).trans he2
      have ha3 := set_blk ha2 0 (.int .i64 0)
      have hr3 := hr2.kept g3 (.inr fun e => by
        have h1 := (hr2.lt ab e).1
        have h2 := HBL.out.a.2
        have h3 := HS.out.sz
        omega)
      have hX3 := hX2.setCell (p := ⟨ab, 0, none⟩) HBL.out.a.1 (.int .i64 0)
      generalize w4.setCell ⟨ab, 0, none⟩ (.int .i64 0) = w5 at hb3 he3 ha3 hr3 hX3 ⊢
      have c1 : w5.cell? ⟨lb, 0, none⟩ = some (.slice pu (normR D).length cu) := (cell_blk hb3 0).trans rfl
      have c2 : w5.cell? ⟨eb, 0, none⟩ = some (.int .i64 0) := (cell_blk he3 0).trans rfl
      have c3 : w5.cell? ⟨ab, 0, none⟩ = some (.int .i64 0) := (cell_blk ha3 0).trans rfl
      have HFIN := Lib.hid (show OwnR w5 (.slice pu (normR D).length cu) (normR L) ∧ Ext w w5 from ⟨⟨_, by rw [← HDE.out]; exact hr3⟩, hX3⟩)
      clear hb3 he3 ha3 hr3 hX3 hb2 he2 ha2 hr2 hX2 hb1 he1 ha1 hr1 hX1 g1 g2 g3 hs2 l0 l1 m0 m1 o0 o1 N1 N2 N3 N4 N5 N6
      refine leaves_cons (f := 101) (args := #[.pointer (some ⟨lb, 0, none⟩), .pointer (some ⟨eb, 0, none⟩), .pointer (some ⟨ab, 0, none⟩)]) (by simp) (by simp [go_sem]) ?_
      refine (c_idle ⟨lb, 0, none⟩ ⟨eb, 0, none⟩ ⟨ab, 0, none⟩ w5).mono ?_
      rintro e u' w'' ⟨rfl, rfl, rfl⟩
      simp [Leaves, settle, results, Tryz.results72, go_sem, c1, c2, c3]
      exact HFIN.out
end Go.Proofs.YtlmkbldiicbejaaGreatDoor
