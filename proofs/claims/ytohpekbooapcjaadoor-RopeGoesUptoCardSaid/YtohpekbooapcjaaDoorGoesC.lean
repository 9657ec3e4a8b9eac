/-
  The walk of RopeGoes.
-/
import Derived.Test.YtohpekbooapcjaaDoorGoesB
namespace Go.Proofs.YtohpekbooapcjaaDoor
open Go.RowKit Go.Rp Go.Shelf

attribute [local go_sem] Oper.semAt_some
theorem seq1_nil (f : Fn) (x y : Array Value) (w : World) : (binOp .eql 41 (.func f x y) .nilFunc).run Tryd.prog w = .ok (.bool false) w := run_eql_func_nil Tryd.underlying41 _ _ _ _
attribute [local go_sem] seq1_nil

theorem _root_.Go.Boxed.mono {W W' : World} {B : Nat} {t : TypeId} {v : Value} (h : Boxed W B t v) (hx : Ext W W') : Boxed W' B t v := Ext.blk hx h
theorem ba_beq (a b : ByteArray) : (a == b) = decide (a = b) := by
  by_cases h : a = b
  · subst h
    simp
    show (a.data == a.data) = true
    simp
  · have : ¬ a.data = b.data := fun e => h (ByteArray.ext e)
    simp [h]
    show (a.data == b.data) = false
    simpa using this
theorem m_ret {F : Fence} {n : Nat} {P : Program} {fn : Func} {R : Ending → World → Prop} {a : Act} {w : World} {v : Value} (hd : a.defers = []) (hr : (results fn a.tmps).run P w = .ok v w) (h : R (.returned v) w) : bodyPostM F n P fn R .ret a w := by
  show LeavesInM F n P fn a.tmps R a.defers .returning w
  rw [hd]
  exact ⟨v, hr, h⟩
/-- The mark that a range over a function leaves. -/
abbrev markOf (D : Nat) : Deferred := { target := .collected D, args := #[] }
def Marked (n₀ : Nat) (W : World) (Ds : List Nat) : Prop := Ds.Nodup ∧ ∀ D ∈ Ds, n₀ ≤ D ∧ W.heap[D]? = some (Obj.deferred (some []))
theorem Marked.keep {n₀ : Nat} {W W' : World} {Ds : List Nat} (h : Marked n₀ W Ds) (hk : ∀ D : Nat, W.heap[D]? = some (Obj.deferred (some [])) → W'.heap[D]? = some (Obj.deferred (some []))) : Marked n₀ W' Ds := ⟨h.1, fun D hD => ⟨(h.2 D hD).1, hk D (h.2 D hD).2⟩⟩
theorem Marked.others {n₀ : Nat} {W W' : World} {Ds : List Nat} (h : Marked n₀ W Ds) (hk : KeepsOthers W W') : Marked n₀ W' Ds := h.keep fun D hD => hk.same D _ hD rfl
theorem Marked.ext {n₀ : Nat} {W W' : World} {Ds : List Nat} (h : Marked n₀ W Ds) (hk : Ext W W') : Marked n₀ W' Ds := h.keep fun _ hD => hk.blk hD
theorem leaves_marked {F : Fence} {n : Nat} {P : Program} {fn : Func} {tmps : Array Value} {R : Ending → World → Prop} {n₀ : Nat} : ∀ (Ds : List Nat) (W : World), Marked n₀ W Ds → (∀ W', Below n₀ W W' → ∃ v, (results fn tmps).run P W' = .ok v W' ∧ R (.returned v) W') → LeavesInM F n P fn tmps R (Ds.map markOf) .returning W
  | [], W, _, h => h W (Below.refl _ _)
  | D :: Ds, W, hm, h => by
    have hD := hm.2 D (by simp)
    refine ⟨by simp, .inl ⟨D, W.putObj D (.deferred none), rfl, run_takeDeferred hD.2, ?_⟩⟩
    have hnd := List.nodup_cons.1 hm.1
    have hbl : Below n₀ W (W.putObj D (.deferred none)) := (Below.refl n₀ W).grown (grownBy_putObj' W D (.deferred none)) (by have := (Array.getElem?_eq_some_iff.1 hD.2).1; have := hD.1; omega) (fun k e => by cases e; exact hD.1)
    refine leaves_marked Ds _ ⟨hnd.2, fun D' hD' => ⟨(hm.2 D' (by simp [hD'])).1, ?_⟩⟩ (fun W' hb => h W' (hbl.trans hb))
    · have hne : D' ≠ D := fun e => hnd.1 (e ▸ hD')
      rw [World.putObj_heap_other hne]
      exact (hm.2 D' (by simp [hD'])).2
theorem marked_own {β : Type} {n₀ Bd : Nat} {Ds : List Nat} (h : ∀ D ∈ Ds, D < Bd) : OwnFrom Bd (fun (_ : β) W => Marked n₀ W Ds) := fun _ X Y row hs hg hr =>
  ⟨hs.1, fun D hD => ⟨(hs.2 D hD).1, (hg.block D (Array.getElem?_eq_some_iff.1 (hs.2 D hD).2).1 (fun e => by have := (hr D e.symm).1; have := h D hD; omega)).trans (hs.2 D hD).2⟩⟩
theorem glueP_prefix {pre ps : List Piece} (h : pre <+: ps) : (glueP pre).size ≤ (glueP ps).size ∧ (glueP ps).extract 0 (glueP pre).size = glueP pre := by
  obtain ⟨t, rfl⟩ := h
  have e : glueP (pre ++ t) = glueP pre ++ glueP t := by simp [glueP, glue_append]
  rw [e]
  refine ⟨by rw [ByteArray.size_append]; omega, ?_⟩
  simp [ByteArray.extract_append]
def boxNat (a : Act) (w : World) : Nat := match a.tmps.getD 14 undef with
  | .pointer (some q) => (((w.cell? q).map intOf).getD 0).toNat
  | _ => 0

theorem inBlock_self {id : Nat} {Q : Exit → Act → World → Prop} {a : Act} {w : World} (h : Q .normal a w) : Exit.inBlock id Q (.exit id) a w := by
  show (if id = id then Q .normal a w else Q (.exit id) a w)
  rw [if_pos rfl]
  exact h
theorem box_less {a a' : Act} {w w' : World} {q q' : Addr} {k : Nat} (hk : k < 2) (h : a.tmps.getD 14 undef = .pointer (some q)) (h' : a'.tmps.getD 14 undef = .pointer (some q'))
    (c : w.cell? q = some (.int .i64 ((k : Nat) : Int))) (c' : w'.cell? q' = some (.int .i64 ((k + 1 : Nat) : Int))) : 3 - boxNat a' w' < 3 - boxNat a w := by
  have e : boxNat a w = k := by simp [boxNat, h, c, intOf]
  have e' : boxNat a' w' = k + 1 := by
    simp only [boxNat, h', c', intOf, Option.map_some, Option.getD_some]
    omega
  omega

set_option maxRecDepth 100000 in
set_option maxHeartbeats 8000000 in
theorem c_Goes (v1 v2 : Value) (l m : List ByteArray) (at_ stop : Int) (w : World) (h1 : StrRow w v1 l) (h2 : StrRow w v2 m) (hT : Lib.Utf8Tabs 0 1 w) (hs1 : ∀ s ∈ l, s.size ≤ 140737488351232) (hs2 : ∀ s ∈ m, s.size ≤ 140737488351232) :
    Calls Tryd.prog 4 #[.agg #[v1, v2, .int .i64 at_, .int .i64 stop]] w fun e w' => e = .returned (.bool true) ∧ Ext w w' := by
  have hall : ∀ f, Fence.wide.fn f := fun _ => trivial
  have hro : Fence.wide.round = none := rfl
  have hX := Ext.refl w
  obtain ⟨p1, cap1, rfl⟩ := h1.form
  obtain ⟨p2, cap2, rfl⟩ := h2.form
  refine (callsIn_wide (n := 9)).1 ?_
  refine callsIn_of_wp_marks Tryd.func4 rfl (hall _) ?_ rfl
  simp only [Tryd.ntmps4, List.size_toArray, List.length_cons, List.length_nil, Nat.reduceAdd, Nat.reduceSub, Array.replicate_succ, Array.replicate_zero, List.push_toArray, List.append_toArray, List.nil_append, List.cons_append]
  refine wpIn_wide.2 ?_
  go_wp2_with fail
  obtain ⟨wB, hwB⟩ : ∃ wB, wB = (w.alloc (.cells #[.slice p1 l.length cap1, .slice p2 m.length cap2, .int .i64 at_, .int .i64 stop] 38)).alloc (.cells #[.bool false] 4) := ⟨_, rfl⟩
  have hb0 : wB.heap[w.heap.size]? = some (.cells #[.slice p1 l.length cap1, .slice p2 m.length cap2, .int .i64 at_, .int .i64 stop] 38) := by
    rw [hwB]
    exact (Below.heap_alloc _ _ _ (by simp)).trans (World.alloc_heap_new w _)
  have bRes : Boxed wB (w.heap.size + 1) 4 (.bool false) := by
    rw [hwB]
    have := Boxed.new (w.alloc (.cells #[.slice p1 l.length cap1, .slice p2 m.length cap2, .int .i64 at_, .int .i64 stop] 38)) 4 (.bool false)
    rw [World.size_alloc] at this
    exact this
  have hxB : Ext w wB := by rw [hwB]; exact ((Ext.refl w).alloc _).alloc _
  have hszB : wB.heap.size = w.heap.size + 2 := by rw [hwB]; simp
  rw [← hwB]
  clear hwB
  have q1 : ∀ w', Ext wB w' → ∀ i, w'.cell? ⟨w.heap.size, i, none⟩ = _ := fun w' h i => cell_blk (h.blk hb0) i
  refine wp_lex [true, true, true, true, true, true, true, true, false, true, true, true] (by kernel_rfl) (by kernel_rfl) ?_
  repeat first
    | refine wpG_move (by rfl) (by simp only [Act.eval, Array.getD_eq_getD_getElem?, List.getElem?_toArray, List.getElem?_cons_succ, List.getElem?_cons_zero, Option.getD_some]; try rfl) (by simp only [Act.put, List.setIfInBounds_toArray, List.set_cons_succ, List.set_cons_zero]; rfl) ?_
    | refine wpG_assign (by rfl) (by simp only [Act.eval, Array.getD_eq_getD_getElem?, List.getElem?_toArray, List.getElem?_cons_succ, List.getElem?_cons_zero, Option.getD_some]; try rfl) (by simp only [Act.put, List.setIfInBounds_toArray, List.set_cons_succ, List.set_cons_zero]; rfl) ?_
    | refine wpG_val (by rfl) (fun w' hx => (by go_simp; first | (go_bits; first | exact rfl | exact ⟨by omega, rfl⟩) | exact rfl | exact (if_neg (by omega)).trans rfl | exact ⟨by omega, rfl⟩)) (by simp only [Act.put, List.setIfInBounds_toArray, List.set_cons_succ, List.set_cons_zero]; rfl) ?_
    | refine wpG_no (by rfl) (by simp only [Act.put, List.setIfInBounds_toArray, List.set_cons_succ, List.set_cons_zero]; rfl) ?_
  refine wpG_do (by rfl) (fun w2 hx2 K hK => ?_)
  go_wp2_with fail
  refine ⟨(Ext.refl w2).alloc _, ?_⟩
  repeat first
    | refine wpG_move (by rfl) (by simp only [Act.eval, Array.getD_eq_getD_getElem?, List.getElem?_toArray, List.getElem?_cons_succ, List.getElem?_cons_zero, Option.getD_some]; try rfl) (by simp only [Act.put, List.setIfInBounds_toArray, List.set_cons_succ, List.set_cons_zero]; rfl) ?_
    | refine wpG_assign (by rfl) (by simp only [Act.eval, Array.getD_eq_getD_getElem?, List.getElem?_toArray, List.getElem?_cons_succ, List.getElem?_cons_zero, Option.getD_some]; try rfl) (by simp only [Act.put, List.setIfInBounds_toArray, List.set_cons_succ, List.set_cons_zero]; rfl) ?_
    | refine wpG_val (by rfl) (fun w' hx => (by go_simp; first | (go_bits; first | exact rfl | exact ⟨by omega, rfl⟩) | exact rfl | exact (if_neg (by omega)).trans rfl | exact ⟨by omega, rfl⟩)) (by simp only [Act.put, List.setIfInBounds_toArray, List.set_cons_succ, List.set_cons_zero]; rfl) ?_
    | refine wpG_no (by rfl) (by simp only [Act.put, List.setIfInBounds_toArray, List.set_cons_succ, List.set_cons_zero]; rfl) ?_
  refine wpG_end (fun w3 hx3 => ?_)
  have b3 := (Boxed.new w2 3 (.int .i64 0)).ext hx3
  have c3 := b3.cell
  have f3 := b3.frozen
  go_wp2_with fail
  refine gQ_normal ?_
  have bS := b3.set (.int .i64 stop)
  have hx23 : Ext wB w3 := hx2.trans (((Ext.refl w2).alloc _).trans hx3)
  have bR4 := (bRes.ext hx23).other (B' := w2.heap.size) (by have := hx2.sz; omega) (.int .i64 stop)
  have hX : Ext w (w3.setCell ⟨w2.heap.size, 0, none⟩ (.int .i64 stop)) := Below.setCell (hxB.trans hx23) (p := ⟨w2.heap.size, 0, none⟩) (by have := hx2.sz; simp; omega) _
  have hBs : w.heap.size + 1 < w2.heap.size := by have := hx2.sz; omega
  obtain ⟨W, hW⟩ : ∃ W, w3.setCell ⟨w2.heap.size, 0, none⟩ (.int .i64 stop) = W := ⟨_, rfl⟩
  obtain ⟨Bs, hB⟩ : ∃ Bs, w2.heap.size = Bs := ⟨_, rfl⟩
  rw [hW] at bS bR4 hX ⊢
  rw [hB] at bS hBs ⊢
  clear hW hB b3 c3 f3 hx23 hx3 hx2 q1 hxB hszB hb0 bRes
  replace h1 := h1.mono hX
  replace h2 := h2.mono hX
  by_cases hw : 200 < l.length ∨ (1500 : Int) < (total l : Nat)
  · have HW := Lib.hid hw
    clear hw
    go_wp2_with fail
    refine (c_wide _ l 1500 true _ h1 hs1 ⟨fun _ => HW.out, fun _ => rfl⟩).mono ?_
    rintro e u1 ⟨rfl, hx⟩
    replace hX := hX.trans hx
    replace bR4 := bR4.mono hx
    clear hx
    go_wp2_with fail
    refine (c_live _).mono ?_
    rintro e u2 ⟨rfl, hx⟩
    replace hX := hX.trans hx
    replace bR4 := bR4.mono hx
    clear hx
    have cr := bR4.cell
    have fr := bR4.frozen
    go_wp2_with fail
    have bT := (bR4.set (.bool true)).cell
    refine m_ret (v := .bool true) rfl (by simp [results, bT, go_sem]) ⟨rfl, Below.setCell hX (p := ⟨w.heap.size + 1, 0, none⟩) (by simp) _⟩
  have hl1 : l.length ≤ 200 := by omega
  have hl2 : total l ≤ 1500 := by omega
  have HW := Lib.hid hw
  clear hw
  by_cases hw2 : 200 < m.length ∨ (1500 : Int) < (total m : Nat)
  · have HW2 := Lib.hid hw2
    clear hw2
    go_wp2_with fail
    refine (c_wide _ l 1500 false _ h1 hs1 ⟨fun h => (by cases h), fun h => absurd h HW.out⟩).mono ?_
    rintro e u3 ⟨rfl, hx⟩
    replace hX := hX.trans hx
    replace bR4 := bR4.mono hx
    replace h2 := h2.mono hx
    clear hx
    go_wp2_with fail
    refine (c_wide _ m 1500 true _ h2 hs2 ⟨fun _ => HW2.out, fun _ => rfl⟩).mono ?_
    rintro e u4 ⟨rfl, hx⟩
    replace hX := hX.trans hx
    replace bR4 := bR4.mono hx
    clear hx
    go_wp2_with fail
    refine (c_live _).mono ?_
    rintro e u5 ⟨rfl, hx⟩
    replace hX := hX.trans hx
    replace bR4 := bR4.mono hx
    clear hx
    have cr := bR4.cell
    have fr := bR4.frozen
    go_wp2_with fail
    have bT := (bR4.set (.bool true)).cell
    refine m_ret (v := .bool true) rfl (by simp [results, bT, go_sem]) ⟨rfl, Below.setCell hX (p := ⟨w.heap.size + 1, 0, none⟩) (by simp) _⟩
  have hm1 : m.length ≤ 200 := by omega
  have hm2 : total m ≤ 1500 := by omega
  have HW2 := Lib.hid hw2
  clear hw2
  go_wp2_with fail
  refine (c_wide _ l 1500 false _ h1 hs1 ⟨fun h => (by cases h), fun h => absurd h HW.out⟩).mono ?_
  rintro e u6 ⟨rfl, hx⟩
  replace hX := hX.trans hx
  replace bR4 := bR4.mono hx
  replace bS := bS.mono hx
  replace h1 := h1.mono hx
  replace h2 := h2.mono hx
  clear hx
  go_wp2_with fail
  refine (c_wide _ m 1500 false _ h2 hs2 ⟨fun h => (by cases h), fun h => absurd h HW2.out⟩).mono ?_
  rintro e u7 ⟨rfl, hx⟩
  replace hX := hX.trans hx
  replace bR4 := bR4.mono hx
  replace bS := bS.mono hx
  replace h1 := h1.mono hx
  replace h2 := h2.mono hx
  clear hx
  go_wp2_with fail
  refine (c_made _ l _ h1 hl1 (by omega)).mono ?_
  rintro e u8 ⟨r, o, rfl, hr, ho, hx⟩
  replace hX := hX.trans hx
  replace bR4 := bR4.mono hx
  replace bS := bS.mono hx
  replace h2 := h2.mono hx
  clear hx
  have hsz : (txt o).size ≤ 1500 := by rw [ho, glue_size]; omega
  have HO := Lib.hid ho
  clear ho
  rw [← HO.out]
  go_wp2_with fail
  refine (c_made _ m _ h2 hm1 (by omega)).mono ?_
  rintro e u9 ⟨r2, o2, rfl, hr2, ho2, hx⟩
  replace hX := hX.trans hx
  replace bR4 := bR4.mono hx
  replace bS := bS.mono hx
  replace hr := hr.mono hx
  clear hx
  have hsz2 : (txt o2).size ≤ 1500 := by rw [ho2, glue_size]; omega
  have HO2 := Lib.hid ho2
  clear ho2
  rw [← HO2.out]
  have hE := fun W (hr : IsRope W r o) (hr2 : IsRope W r2 o2) => c_Equal r r2 o o2 W hr hr2 (by omega) (by omega)
  have hE2 := fun W (hr : IsRope W r o) => c_Equal r r o o W hr hr (by omega) (by omega)
  rw [show decide (txt o = txt o) = true from decide_eq_true rfl] at hE2
  have HE2 := Lib.hid hE2
  have hE3 : ∃ be, (∀ W, IsRope W r o → IsRope W r2 o2 → Calls Tryd.prog 17 #[r, r2] W fun e w' => e = .returned (.bool be) ∧ Ext W w') ∧ (be = true ↔ (txt o).toList = (txt o2).toList) := by
    refine ⟨decide (txt o = txt o2), hE, ?_⟩
    rw [← beq_text]
    simp
  obtain ⟨be, hE4, hbe⟩ := hE3
  have HE := Lib.hid hE4
  have hb : ((txt o).toList == (txt o2).toList) = be := by
    cases be with
    | true => have := hbe.1 rfl; simpa using this
    | false =>
      have : ¬ (txt o).toList = (txt o2).toList := fun h => by have := hbe.2 h; cases this
      simpa using this
  clear hE hE2 hE4 hbe
  go_wp2_with fail
  refine (HE.out _ hr hr2).mono ?_
  rintro e u10 ⟨rfl, hx⟩
  replace hX := hX.trans hx
  replace bR4 := bR4.mono hx
  replace bS := bS.mono hx
  replace hr := hr.mono hx
  clear hx
  go_wp2_with fail
  refine (HE2.out _ hr).mono ?_
  rintro e u11 ⟨rfl, hx⟩
  replace hX := hX.trans hx
  replace bR4 := bR4.mono hx
  replace bS := bS.mono hx
  replace hr := hr.mono hx
  clear hx
  clear hb HE HE2 HO2 hr2 hsz2 h1 h2
  obtain ⟨p, rfl⟩ : ∃ p, r = .pointer p := by cases hr <;> exact ⟨_, rfl⟩
  go_wp2_with fail
  refine (c_Pieces p _).mono ?_
  rintro e wP ⟨rfl, rfl⟩
  go_wp2_with fail
  -- THE LOOP
  obtain ⟨wQ, hwQ⟩ : ∃ wQ, wQ = u11.alloc (.cells #[.pointer p] 25) := ⟨_, rfl⟩
  have bP : Boxed wQ u11.heap.size 25 (.pointer p) := by rw [hwQ]; exact Boxed.new _ _ _
  have hxQ : Ext u11 wQ := by rw [hwQ]; exact (Ext.refl _).alloc _
  have hszQ : wQ.heap.size = u11.heap.size + 1 := by rw [hwQ]; simp
  rw [← hwQ]
  clear hwQ
  have bR5 := bR4.mono hxQ
  have bS5 := bS.mono hxQ
  have hr5 := hr.mono hxQ
  have hX5 := hX.trans hxQ
  have bB0 := Boxed.new wQ 3 (.int .i64 ((0 : Nat) : Int))
  have hBsl := bS5.lt
  obtain ⟨ps, hps, hgl⟩ := pieces_ofR hr5
  have hgle := glueP_le ps
  rw [hgl] at hgle
  have HPS := Lib.hid hps
  have HGL := Lib.hid hgl
  clear hps hgl hr bS bR4 hX
  obtain ⟨i0, hi, hz0, hz1, hz2⟩ := info_parts Tryd.infoB
  refine wp_loop (fun a wr => ∃ (k B : Nat) (Ds : List Nat) (u15 u16 u17 u70 u71 u72 u73 u74 u75 u76 u77 u78 u79 u80 u81 u82 u83 u84 u85 u86 u87 u88 u89 u90 u91 u92 u93 u94 u95 u96 u97 u98 u99 u100 u101 u102 u103 u104 u105 u106 u107 u108 u109 u110 u111 u112 u113 u114 u115 u116 u117 u118 u119 u120 u121 : Value), a = { tmps := #[Value.agg #[.slice p1 l.length cap1, .slice p2 m.length cap2, .int .i64 at_, .int .i64 stop], .pointer (some ⟨w.heap.size, 0, none⟩), .pointer (some ⟨w.heap.size + 1, 0, none⟩), .slice p1 l.length cap1, .slice p2 m.length cap2, .int .i64 at_, .pointer (some ⟨Bs, 0, none⟩), .pointer p, .string (txt o), .bool true, r2, .string (txt o2), .bool true, .func (.func 33) #[] #[.pointer (some ⟨u11.heap.size, 0, none⟩)], .pointer (some ⟨B, 0, none⟩), u15, u16, u17, .pointer (some ⟨w.heap.size, 0, none⟩), .slice p1 l.length cap1, .pointer (some ⟨w.heap.size, 1, none⟩), .slice p2 m.length cap2, .pointer (some ⟨w.heap.size, 2, none⟩), .int .i64 at_, .pointer (some ⟨w.heap.size, 3, none⟩), .int .i64 stop, .slice p1 l.length cap1, .bool false, .bool false, .slice p2 m.length cap2, .bool false, .bool false, undef, .tuple #[.pointer p, .string (txt o), .bool true], .slice p1 l.length cap1, .tuple #[.pointer p, .string (txt o), .bool true], .pointer p, .string (txt o), .bool true, .tuple #[r2, .string (txt o2), .bool true], .slice p2 m.length cap2, .tuple #[r2, .string (txt o2), .bool true], r2, .string (txt o2), .bool true, .bool true, .bool false, .bool false, .bool true, .bool false, .bool false, .bool false, .pointer p, r2, .bool be, .string (txt o), .string (txt o2), .bool be, .bool false, .bool false, .bool false, .pointer p, .pointer p, .bool true, .bool false, .bool false, .pointer p, .func (.func 33) #[] #[.pointer (some ⟨u11.heap.size, 0, none⟩)], .func (.func 33) #[] #[.pointer (some ⟨u11.heap.size, 0, none⟩)], .bool false, u70, u71, u72, u73, u74, u75, u76, u77, u78, u79, u80, u81, u82, u83, u84, u85, u86, u87, u88, u89, u90, u91, u92, u93, u94, u95, u96, u97, u98, u99, u100, u101, u102, u103, u104, u105, u106, u107, u108, u109, u110, u111, u112, u113, u114, u115, u116, u117, u118, u119, u120, u121, undef, undef, undef, undef, undef, undef, undef, undef], defers := Ds.map markOf } ∧ k ≤ 2 ∧ Boxed wr B 3 (.int .i64 (k : Nat)) ∧ wQ.heap.size ≤ B ∧ Ext wQ wr ∧ Marked wQ.heap.size wr Ds) (fun a wr => 3 - boxNat a wr) ?start ?round
  case start =>
    refine ⟨0, u11.heap.size + 1, [], undef, undef, undef, undef, undef, undef, undef, undef, undef, undef, undef, undef, undef, undef, undef, undef, undef, undef, undef, undef, undef, undef, undef, undef, undef, undef, undef, undef, undef, undef, undef, undef, undef, undef, undef, undef, undef, undef, undef, undef, undef, undef, undef, undef, undef, undef, undef, undef, undef, undef, undef, undef, undef, undef, undef, ?_, by omega, by rw [← hszQ]; exact bB0, by omega, (Ext.refl wQ).alloc _, List.Pairwise.nil, fun D hD => by cases hD⟩
    rfl
  case round =>
    rintro a wr ⟨k, B, Ds, u15, u16, u17, u70, u71, u72, u73, u74, u75, u76, u77, u78, u79, u80, u81, u82, u83, u84, u85, u86, u87, u88, u89, u90, u91, u92, u93, u94, u95, u96, u97, u98, u99, u100, u101, u102, u103, u104, u105, u106, u107, u108, u109, u110, u111, u112, u113, u114, u115, u116, u117, u118, u119, u120, u121, rfl, hk, bB, hBq, hxr, hMk⟩
    have cB := bB.cell
    have hBl := bB.lt
    by_cases hk2 : k < 2
    · have hdk : decide (((k : Nat) : Int) < 2) = true := decide_eq_true (by omega)
      go_wp2_with fail
      clear hdk
      rename_i K HK
      have tail : ∀ (Z : ByteArray) (v : Value) (u17 u72 u73 u75 u76 u77 u78 u79 u80 u81 u82 u83 u84 u85 u86 u87 u88 u89 u90 u91 u92 u93 u94 u95 u96 u97 u98 u99 u100 u101 u102 u103 u104 u105 u106 u107 u108 u109 u110 u111 u112 u113 u114 u115 u116 u117 u118 u119 u120 u121 : Value) (D : Nat) (W : World), Z.size ≤ (txt o).size → (txt o).extract 0 Z.size = Z → (k = 1 → Z.size = (txt o).size) → Boxed W wr.heap.size 43 v → W.ownsRow wr.heap.size 5 1 v Z.size (Lib.strCells Z) → Boxed W B 3 (.int .i64 (k : Nat)) → Ext wQ W → Marked wQ.heap.size W (D :: Ds) → K { tmps := #[Value.agg #[.slice p1 l.length cap1, .slice p2 m.length cap2, .int .i64 at_, .int .i64 stop], .pointer (some ⟨w.heap.size, 0, none⟩), .pointer (some ⟨w.heap.size + 1, 0, none⟩), .slice p1 l.length cap1, .slice p2 m.length cap2, .int .i64 at_, .pointer (some ⟨Bs, 0, none⟩), .pointer p, .string (txt o), .bool true, r2, .string (txt o2), .bool true, .func (.func 33) #[] #[.pointer (some ⟨u11.heap.size, 0, none⟩)], .pointer (some ⟨B, 0, none⟩), .pointer (some ⟨wr.heap.size, 0, none⟩), .pointer (some ⟨wr.heap.size + 1, 0, none⟩), u17, .pointer (some ⟨w.heap.size, 0, none⟩), .slice p1 l.length cap1, .pointer (some ⟨w.heap.size, 1, none⟩), .slice p2 m.length cap2, .pointer (some ⟨w.heap.size, 2, none⟩), .int .i64 at_, .pointer (some ⟨w.heap.size, 3, none⟩), .int .i64 stop, .slice p1 l.length cap1, .bool false, .bool false, .slice p2 m.length cap2, .bool false, .bool false, undef, .tuple #[.pointer p, .string (txt o), .bool true], .slice p1 l.length cap1, .tuple #[.pointer p, .string (txt o), .bool true], .pointer p, .string (txt o), .bool true, .tuple #[r2, .string (txt o2), .bool true], .slice p2 m.length cap2, .tuple #[r2, .string (txt o2), .bool true], r2, .string (txt o2), .bool true, .bool true, .bool false, .bool false, .bool true, .bool false, .bool false, .bool false, .pointer p, r2, .bool be, .string (txt o), .string (txt o2), .bool be, .bool false, .bool false, .bool false, .pointer p, .pointer p, .bool true, .bool false, .bool false, .pointer p, .func (.func 33) #[] #[.pointer (some ⟨u11.heap.size, 0, none⟩)], .func (.func 33) #[] #[.pointer (some ⟨u11.heap.size, 0, none⟩)], .bool false, .int .i64 (k : Nat), .bool true, u72, u73, .func (.func 33) #[] #[.pointer (some ⟨u11.heap.size, 0, none⟩)], u75, u76, u77, u78, u79, u80, u81, u82, u83, u84, u85, u86, u87, u88, u89, u90, u91, u92, u93, u94, u95, u96, u97, u98, u99, u100, u101, u102, u103, u104, u105, u106, u107, u108, u109, u110, u111, u112, u113, u114, u115, u116, u117, u118, u119, u120, u121, undef, undef, undef, undef, undef, undef, undef, undef], defers := markOf D :: Ds.map markOf } W := by
        intro Z v u17 u72 u73 u75 u76 u77 u78 u79 u80 u81 u82 u83 u84 u85 u86 u87 u88 u89 u90 u91 u92 u93 u94 u95 u96 u97 u98 u99 u100 u101 u102 u103 u104 u105 u106 u107 u108 u109 u110 u111 u112 u113 u114 u115 u116 u117 u118 u119 u120 u121 D W hz1 hz2 hz3 bb hrow bB hxW hMk
        refine HK _ _ ?_
        have hsl : ∃ a cap, v = .slice a Z.size cap := by
          rcases hrow.2 with ⟨h1, h2⟩ | ⟨g, cap, _, h1, _⟩
          · exact ⟨none, 0, by rw [h1, h2]⟩
          · exact ⟨_, cap, h1⟩
        obtain ⟨ad, cap, rfl⟩ := hsl
        have qb : ∀ w', Ext W w' → w'.cell? ⟨wr.heap.size, 0, none⟩ = some (.slice ad Z.size cap) := fun w' h => (bb.ext h).cell
        have qB : ∀ w', Ext W w' → w'.cell? ⟨B, 0, none⟩ = some (.int .i64 (k : Nat)) := fun w' h => (bB.ext h).cell
        have hcv : ∀ w', Ext W w' → (convert 43 9 (.slice ad Z.size cap)).run Tryd.prog w' = .ok (.string Z) w' := fun w' hx => conv_str (ownsRow_ext hrow hx)
        have hd1 : decide ((txt o).size < Z.size) = false := decide_eq_false (by omega)
        have hd2 : (Z.toList == Z.toList) = true := by simp
        have HX := Lib.hid hxW
        have HM := Lib.hid hMk
        have HB := Lib.hid bB
        clear hxW hMk bB bb hrow
        rcases (show k = 0 ∨ k = 1 by omega) with rfl | rfl
        · clear hz3 hk hk2
          go_wp2_with fail
          refine wp_lex [true, true, true, true, true, true, true, true, true, true, true, true, true, true, true, true, true, true, true, true, true, true, true, true, true] (by kernel_rfl) (by kernel_rfl) ?_
          repeat first
            | refine wpG_move (by rfl) (by simp only [Act.eval, Array.getD_eq_getD_getElem?, List.getElem?_toArray, List.getElem?_cons_succ, List.getElem?_cons_zero, Option.getD_some]; try rfl) (by simp only [Act.put, List.setIfInBounds_toArray, List.set_cons_succ, List.set_cons_zero]; rfl) ?_
            | refine wpG_assign (by rfl) (by simp only [Act.eval, Array.getD_eq_getD_getElem?, List.getElem?_toArray, List.getElem?_cons_succ, List.getElem?_cons_zero, Option.getD_some]; try rfl) (by simp only [Act.put, List.setIfInBounds_toArray, List.set_cons_succ, List.set_cons_zero]; rfl) ?_
            | refine wpG_val (by rfl) (fun w' hx => (by go_simp; first | (go_bits; first | exact rfl | exact ⟨by omega, rfl⟩) | exact rfl | exact (if_neg (by omega)).trans rfl | exact ⟨by omega, rfl⟩)) (by simp only [Act.put, List.setIfInBounds_toArray, List.set_cons_succ, List.set_cons_zero]; rfl) ?_
            | refine wpG_no (by rfl) (by simp only [Act.put, List.setIfInBounds_toArray, List.set_cons_succ, List.set_cons_zero]; rfl) ?_
          refine wpG_end (fun w4 hx4 => ?_)
          refine wpList_nil ?_
          refine gQ_normal ?_
          have bB4 := HB.out.ext hx4
          have cB4 := bB4.cell
          go_wp2_with fail
          have hx5 : Ext wQ w4 := HX.out.trans hx4
          have bN := Boxed.new w4 3 (.int .i64 ((1 : Nat) : Int))
          exact ⟨⟨1, w4.heap.size, D :: Ds, _, _, _, _, _, _, _, _, _, _, _, _, _, _, _, _, _, _, _, _, _, _, _, _, _, _, _, _, _, _, _, _, _, _, _, _, _, _, _, _, _, _, _, _, _, _, _, _, _, _, _, _, _, _, _, rfl, by omega, bN, hx5.sz, hx5.alloc _, (HM.out.ext hx4).ext ((Ext.refl w4).alloc _)⟩, box_less (k := 0) (by omega) rfl rfl cB bN.cell⟩
        · have hz4 := hz3 rfl
          have hd3 : (((Z.size : Nat) : Int) != (((txt o).size : Nat) : Int)) = false := by rw [hz4]; simp
          clear hz3 hz4 hk hk2
          go_wp2_with fail
          refine wp_lex [true, true, true, true, true, true, true, true, true, true, true, true, true, true, true, true, true, true, true, true, true, true, true, true, true] (by kernel_rfl) (by kernel_rfl) ?_
          repeat first
            | refine wpG_move (by rfl) (by simp only [Act.eval, Array.getD_eq_getD_getElem?, List.getElem?_toArray, List.getElem?_cons_succ, List.getElem?_cons_zero, Option.getD_some]; try rfl) (by simp only [Act.put, List.setIfInBounds_toArray, List.set_cons_succ, List.set_cons_zero]; rfl) ?_
            | refine wpG_assign (by rfl) (by simp only [Act.eval, Array.getD_eq_getD_getElem?, List.getElem?_toArray, List.getElem?_cons_succ, List.getElem?_cons_zero, Option.getD_some]; try rfl) (by simp only [Act.put, List.setIfInBounds_toArray, List.set_cons_succ, List.set_cons_zero]; rfl) ?_
            | refine wpG_val (by rfl) (fun w' hx => (by go_simp; first | (go_bits; first | exact rfl | exact ⟨by omega, rfl⟩) | exact rfl | exact (if_neg (by omega)).trans rfl | exact ⟨by omega, rfl⟩)) (by simp only [Act.put, List.setIfInBounds_toArray, List.set_cons_succ, List.set_cons_zero]; rfl) ?_
            | refine wpG_no (by rfl) (by simp only [Act.put, List.setIfInBounds_toArray, List.set_cons_succ, List.set_cons_zero]; rfl) ?_
          refine wpG_end (fun w4 hx4 => ?_)
          refine wpList_nil ?_
          refine gQ_normal ?_
          have bB4 := HB.out.ext hx4
          have cB4 := bB4.cell
          go_wp2_with fail
          have hx5 : Ext wQ w4 := HX.out.trans hx4
          have bN := Boxed.new w4 3 (.int .i64 ((2 : Nat) : Int))
          exact ⟨⟨2, w4.heap.size, D :: Ds, _, _, _, _, _, _, _, _, _, _, _, _, _, _, _, _, _, _, _, _, _, _, _, _, _, _, _, _, _, _, _, _, _, _, _, _, _, _, _, _, _, _, _, _, _, _, _, _, _, _, _, _, _, _, _, rfl, by omega, bN, hx5.sz, hx5.alloc _, (HM.out.ext hx4).ext ((Ext.refl w4).alloc _)⟩, box_less (k := 1) (by omega) rfl rfl cB bN.cell⟩
      clear HK
      obtain ⟨W1, hW1⟩ : ∃ W1, W1 = (wr.alloc (.cells #[.slice none 0 0] 43)).alloc (.cells #[.int .i64 0] 3) := ⟨_, rfl⟩
      have bb1 : Boxed W1 wr.heap.size 43 (.slice none 0 0) := by rw [hW1]; exact (Boxed.new wr 43 (.slice none 0 0)).alloc _
      have bn1 : Boxed W1 (wr.heap.size + 1) 3 (.int .i64 ((0 : Nat) : Int)) := by
        rw [hW1]
        have := Boxed.new (wr.alloc (.cells #[.slice none 0 0] 43)) 3 (.int .i64 ((0 : Nat) : Int))
        rw [World.size_alloc] at this
        exact this
      have hx1 : Ext wr W1 := by rw [hW1]; exact ((Ext.refl wr).alloc _).alloc _
      have hsz1 : W1.heap.size = wr.heap.size + 2 := by rw [hW1]; simp
      rw [← hW1]
      clear hW1
      have hq1 : wQ.heap.size ≤ wr.heap.size := hxr.sz
      have hsz2 : W1.heap.size ≤ wr.heap.size + 2 ∧ wr.heap.size + 2 ≤ W1.heap.size := by omega
      have hqq : wQ.heap.size ≤ u11.heap.size + 1 ∧ u11.heap.size + 1 ≤ wQ.heap.size := by omega
      clear hsz1 hszQ
      have hMl : ∀ D ∈ Ds, D < W1.heap.size := fun D hD => by have := (Array.getElem?_eq_some_iff.1 (hMk.2 D hD).2).1; omega
      have HML := Lib.hid hMl
      have HXR := Lib.hid hxr
      have HX1 := Lib.hid hx1
      have mcons : ∀ (D : Nat) (W : World), W1.heap.size ≤ D → W.heap[D]? = some (.deferred (some [])) → Marked wQ.heap.size W Ds → Marked wQ.heap.size W (D :: Ds) := fun D W hD hK hM =>
        ⟨List.nodup_cons.2 ⟨fun hm => by have := HML.out D hm; omega, hM.1⟩, fun D' hD' => by
          rcases List.mem_cons.1 hD' with e | h
          · rw [e]; exact ⟨by omega, hK⟩
          · exact hM.2 D' h⟩
      clear hMl hxr cB
      refine (wpIn_wide (n := 9)).1 ?_
      refine wpIn_rangeFunc_ownG hro (by decide) (gf := 33) (lb := #[.pointer (some ⟨u11.heap.size, 0, none⟩)]) rfl (hall _) (enters_of Tryd.func33 (by kernel_rfl) rfl)
        (pieces_stops (.pointer p) o ps HPS.out (9 - 1) u11.heap.size wQ W1 hr5 (HXR.out.trans HX1.out) (bP.ext (HXR.out.trans HX1.out))) belowK_t (belowK_b (by omega)) (Below.refl _ _) (fun _ => rfl)
        (fun pre W => (((∃ v, Boxed W wr.heap.size 43 v ∧ W.ownsRow wr.heap.size 5 1 v (glueP pre).size (Lib.strCells (glueP pre)) ∧ True) ∧ Boxed W (wr.heap.size + 1) 3 (.int .i64 (pre.length : Nat))) ∧ (Boxed W B 3 (.int .i64 (k : Nat)) ∧ Marked wQ.heap.size W Ds)) ∧ Below wr.heap.size W1 W)
        (fun c pre W => c = .exit 2 ∧ k = 0 ∧ ((((∃ v, Boxed W wr.heap.size 43 v ∧ W.ownsRow wr.heap.size 5 1 v (glueP pre).size (Lib.strCells (glueP pre)) ∧ True) ∧ (Boxed W B 3 (.int .i64 (k : Nat)) ∧ Marked wQ.heap.size W Ds)) ∧ Below wr.heap.size W1 W)))
        (OwnFrom.and (OwnFrom.and (OwnFrom.and (Own.from (holdsRow_own wr.heap.size wr.heap.size 43 5 1 (fun pre : List Piece => (glueP pre).size) (fun pre => Lib.strCells (glueP pre)) (fun _ _ => True)) _) (Own.from (boxed_own (wr.heap.size + 1) 3 (fun pre : List Piece => Value.int .i64 (pre.length : Nat))) _)) (OwnFrom.and (Own.from (boxed_own B 3 (fun _ : List Piece => Value.int .i64 (k : Nat))) _) (marked_own HML.out))) (ownFrom_below (by omega) (by omega)))
        (fun c s X Y row hh hg hr => ⟨hh.1, hh.2.1, OwnFrom.and (OwnFrom.and (Own.from (holdsRow_own wr.heap.size wr.heap.size 43 5 1 (fun pre : List Piece => (glueP pre).size) (fun pre => Lib.strCells (glueP pre)) (fun _ _ => True)) _) (OwnFrom.and (Own.from (boxed_own B 3 (fun _ : List Piece => Value.int .i64 (k : Nat))) _) (marked_own HML.out))) (ownFrom_below (by omega) (by omega)) s X Y row hh.2.2 hg hr⟩)
        ⟨⟨⟨⟨_, bb1, World.ownsRow_nil _ _ _ _, trivial⟩, bn1⟩, bB.ext HX1.out, hMk.ext HX1.out⟩, Below.refl _ _⟩
        (fun x => { tmps := #[Value.agg #[.slice p1 l.length cap1, .slice p2 m.length cap2, .int .i64 at_, .int .i64 stop], .pointer (some ⟨w.heap.size, 0, none⟩), .pointer (some ⟨w.heap.size + 1, 0, none⟩), .slice p1 l.length cap1, .slice p2 m.length cap2, .int .i64 at_, .pointer (some ⟨Bs, 0, none⟩), .pointer p, .string (txt o), .bool true, r2, .string (txt o2), .bool true, .func (.func 33) #[] #[.pointer (some ⟨u11.heap.size, 0, none⟩)], .pointer (some ⟨B, 0, none⟩), .pointer (some ⟨wr.heap.size, 0, none⟩), .pointer (some ⟨wr.heap.size + 1, 0, none⟩), .string x.1, .pointer (some ⟨w.heap.size, 0, none⟩), .slice p1 l.length cap1, .pointer (some ⟨w.heap.size, 1, none⟩), .slice p2 m.length cap2, .pointer (some ⟨w.heap.size, 2, none⟩), .int .i64 at_, .pointer (some ⟨w.heap.size, 3, none⟩), .int .i64 stop, .slice p1 l.length cap1, .bool false, .bool false, .slice p2 m.length cap2, .bool false, .bool false, undef, .tuple #[.pointer p, .string (txt o), .bool true], .slice p1 l.length cap1, .tuple #[.pointer p, .string (txt o), .bool true], .pointer p, .string (txt o), .bool true, .tuple #[r2, .string (txt o2), .bool true], .slice p2 m.length cap2, .tuple #[r2, .string (txt o2), .bool true], r2, .string (txt o2), .bool true, .bool true, .bool false, .bool false, .bool true, .bool false, .bool false, .bool false, .pointer p, r2, .bool be, .string (txt o), .string (txt o2), .bool be, .bool false, .bool false, .bool false, .pointer p, .pointer p, .bool true, .bool false, .bool false, .pointer p, .func (.func 33) #[] #[.pointer (some ⟨u11.heap.size, 0, none⟩)], .func (.func 33) #[] #[.pointer (some ⟨u11.heap.size, 0, none⟩)], .bool false, .int .i64 (k : Nat), .bool true, u72, u73, .func (.func 33) #[] #[.pointer (some ⟨u11.heap.size, 0, none⟩)], .string x.1, u76, u77, u78, u79, u80, u81, u82, u83, u84, u85, u86, u87, u88, u89, u90, u91, u92, u93, u94, u95, u96, u97, u98, u99, u100, u101, u102, u103, u104, u105, u106, u107, u108, u109, u110, u111, u112, u113, u114, u115, u116, u117, u118, u119, u120, u121, undef, undef, undef, undef, undef, undef, undef, undef], defers := [] }) ?assign ?body ?done ?stop
      case assign =>
        intro l x W K hK
        gi_wp2
        exact hK
      case body =>
        rintro l pre x W ⟨⟨⟨⟨v, hv, hrow, _⟩, hn⟩, hBk, hMW⟩, hB⟩ hlt
        have hx1 := x.2
        have hxz : (((x.1.size : Nat) : Int) == 0) = false := beq_false_of_ne (by have := hx1.1; omega)
        have hxl : ¬ (256 : Int) < ((x.1.size : Nat) : Int) := by have := hx1.2; omega
        have hle := glueP_le pre
        have hle2 := glueP_le ps
        rw [HGL.out] at hle2
        have hc := hv.cell
        have hWsz : wr.heap.size ≤ W.heap.size := by have := hB.size; omega
        have hxW : Ext wQ W := HXR.out.trans (show Ext wr W from Below.trans HX1.out hB)
        rcases (show k = 0 ∨ k = 1 by omega) with rfl | rfl
        · by_cases hst : ((pre.length : Nat) : Int) = stop
          · have hsb : (((pre.length : Nat) : Int) == stop) = true := beq_iff_eq.2 hst
            clear hst
            gi_wp2_with (gi_at_builtin; refine wpListIn_append_str _ rfl (.tmp 84) (.tmp 85) 43 9 rfl wr.heap.size 5 i0 Tryd.underlying43 Tryd.underlying9 hi hz0 hz1 hz2 _ _ _ rfl hrow x.1 rfl (by unfold maxLen; omega) (by omega) hWsz ?_; intro v' w1 hown' hgrow _; obtain ⟨g', cap', rfl⟩ := ownsRow_pos hown' (by omega); obtain ⟨hv1, hv2, hr2, hk2, hb2⟩ := boxed_str hv (by decide) hrow hWsz (Nat.le_refl _) hown' hgrow; have hc1 := hv1.cell; have hf1 := hv1.frozen; have hn2 := (hn.kept hgrow (hn.not_row (by decide) hrow)).other (B' := wr.heap.size) (by omega) (.slice (some ⟨g', 0, none⟩) ((glueP pre).size + x.1.size) cap'); have hBk2 := (hBk.kept hgrow (hBk.not_row (by decide) hrow)).other (B' := wr.heap.size) (by omega) (.slice (some ⟨g', 0, none⟩) ((glueP pre).size + x.1.size) cap'); have hxW2 : Ext wQ (w1.setCell ⟨wr.heap.size, 0, none⟩ (.slice (some ⟨g', 0, none⟩) ((glueP pre).size + x.1.size) cap')) := Below.trans hxW (hb2.mono hq1); have cn2 := hn2.cell; have fn2 := hn2.frozen; have cB2 := hBk2.cell; have cS2 := (bS5.ext hxW2).cell)
            exact ⟨hk2.from _, rfl, ⟨⟨_, hv2, by rw [glueP_snoc, strCells_append, ByteArray.size_append]; exact hr2⟩, hBk2, hMW.others hk2⟩, hB.trans hb2⟩
          · have hsb : (((pre.length : Nat) : Int) == stop) = false := beq_false_of_ne hst
            clear hst
            gi_wp2_with (gi_at_builtin; refine wpListIn_append_str _ rfl (.tmp 84) (.tmp 85) 43 9 rfl wr.heap.size 5 i0 Tryd.underlying43 Tryd.underlying9 hi hz0 hz1 hz2 _ _ _ rfl hrow x.1 rfl (by unfold maxLen; omega) (by omega) hWsz ?_; intro v' w1 hown' hgrow _; obtain ⟨g', cap', rfl⟩ := ownsRow_pos hown' (by omega); obtain ⟨hv1, hv2, hr2, hk2, hb2⟩ := boxed_str hv (by decide) hrow hWsz (Nat.le_refl _) hown' hgrow; have hc1 := hv1.cell; have hf1 := hv1.frozen; have hn2 := (hn.kept hgrow (hn.not_row (by decide) hrow)).other (B' := wr.heap.size) (by omega) (.slice (some ⟨g', 0, none⟩) ((glueP pre).size + x.1.size) cap'); have hBk2 := (hBk.kept hgrow (hBk.not_row (by decide) hrow)).other (B' := wr.heap.size) (by omega) (.slice (some ⟨g', 0, none⟩) ((glueP pre).size + x.1.size) cap'); have hxW2 : Ext wQ (w1.setCell ⟨wr.heap.size, 0, none⟩ (.slice (some ⟨g', 0, none⟩) ((glueP pre).size + x.1.size) cap')) := Below.trans hxW (hb2.mono hq1); have cn2 := hn2.cell; have fn2 := hn2.frozen; have cB2 := hBk2.cell; have cS2 := (bS5.ext hxW2).cell)
            have bn3 := Boxed.set (.int .i64 (((pre.length : Nat) : Int) + 1)) hn2
            have hne3 : wr.heap.size ≠ wr.heap.size + 1 := by omega
            have hv3 := hv2.other hne3 (.int .i64 (((pre.length : Nat) : Int) + 1))
            have hr3 := hr2.kept (grownBy_setCell' _ (wr.heap.size + 1) (.int .i64 (((pre.length : Nat) : Int) + 1))) (.inr (hn2.not_row (by decide) hr2).symm)
            have hBk3 := hBk2.other (show B ≠ wr.heap.size + 1 by omega) (.int .i64 (((pre.length : Nat) : Int) + 1))
            have hko := hk2.trans (KeepsOthers.setCell _ ⟨wr.heap.size + 1, 0, none⟩ (.int .i64 (((pre.length : Nat) : Int) + 1)))
            have hb3 := Below.setCell hb2 (p := ⟨wr.heap.size + 1, 0, none⟩) (by simp) (.int .i64 (((pre.length : Nat) : Int) + 1))
            refine ⟨hko.from _, hb3.mono hq1, ⟨⟨⟨_, hv3, by rw [glueP_snoc, strCells_append, ByteArray.size_append]; exact hr3⟩, ?_⟩, hBk3, hMW.others hko⟩, hB.trans hb3⟩
            have e : (((pre ++ [x]).length : Nat) : Int) = ((pre.length : Nat) : Int) + 1 := by simp
            exact (congrArg (fun z => Boxed _ (wr.heap.size + 1) 3 (.int .i64 z)) e).mpr bn3
        · gi_wp2_with (gi_at_builtin; refine wpListIn_append_str _ rfl (.tmp 84) (.tmp 85) 43 9 rfl wr.heap.size 5 i0 Tryd.underlying43 Tryd.underlying9 hi hz0 hz1 hz2 _ _ _ rfl hrow x.1 rfl (by unfold maxLen; omega) (by omega) hWsz ?_; intro v' w1 hown' hgrow _; obtain ⟨g', cap', rfl⟩ := ownsRow_pos hown' (by omega); obtain ⟨hv1, hv2, hr2, hk2, hb2⟩ := boxed_str hv (by decide) hrow hWsz (Nat.le_refl _) hown' hgrow; have hc1 := hv1.cell; have hf1 := hv1.frozen; have hn2 := (hn.kept hgrow (hn.not_row (by decide) hrow)).other (B' := wr.heap.size) (by omega) (.slice (some ⟨g', 0, none⟩) ((glueP pre).size + x.1.size) cap'); have hBk2 := (hBk.kept hgrow (hBk.not_row (by decide) hrow)).other (B' := wr.heap.size) (by omega) (.slice (some ⟨g', 0, none⟩) ((glueP pre).size + x.1.size) cap'); have hxW2 : Ext wQ (w1.setCell ⟨wr.heap.size, 0, none⟩ (.slice (some ⟨g', 0, none⟩) ((glueP pre).size + x.1.size) cap')) := Below.trans hxW (hb2.mono hq1); have cn2 := hn2.cell; have fn2 := hn2.frozen; have cB2 := hBk2.cell; have cS2 := (bS5.ext hxW2).cell)
          have bn3 := Boxed.set (.int .i64 (((pre.length : Nat) : Int) + 1)) hn2
          have hne3 : wr.heap.size ≠ wr.heap.size + 1 := by omega
          have hv3 := hv2.other hne3 (.int .i64 (((pre.length : Nat) : Int) + 1))
          have hr3 := hr2.kept (grownBy_setCell' _ (wr.heap.size + 1) (.int .i64 (((pre.length : Nat) : Int) + 1))) (.inr (hn2.not_row (by decide) hr2).symm)
          have hBk3 := hBk2.other (show B ≠ wr.heap.size + 1 by omega) (.int .i64 (((pre.length : Nat) : Int) + 1))
          have hko := hk2.trans (KeepsOthers.setCell _ ⟨wr.heap.size + 1, 0, none⟩ (.int .i64 (((pre.length : Nat) : Int) + 1)))
          have hb3 := Below.setCell hb2 (p := ⟨wr.heap.size + 1, 0, none⟩) (by simp) (.int .i64 (((pre.length : Nat) : Int) + 1))
          refine ⟨hko.from _, hb3.mono hq1, ⟨⟨⟨_, hv3, by rw [glueP_snoc, strCells_append, ByteArray.size_append]; exact hr3⟩, ?_⟩, hBk3, hMW.others hko⟩, hB.trans hb3⟩
          have e : (((pre ++ [x]).length : Nat) : Int) = ((pre.length : Nat) : Int) + 1 := by simp
          exact (congrArg (fun z => Boxed _ (wr.heap.size + 1) 3 (.int .i64 z)) e).mpr bn3
      case done =>
        rintro D ys W hD hys ⟨⟨⟨⟨v, hv, hrow, _⟩, hn⟩, hBk, hMW⟩, hB⟩ hK
        obtain rfl : ys = ps := hys
        have hg := HGL.out
        rw [hg] at hrow
        exact tail (txt o) v u17 u72 u73 u75 u76 u77 u78 u79 u80 u81 u82 u83 u84 u85 u86 u87 u88 u89 u90 u91 u92 u93 u94 u95 u96 u97 u98 u99 u100 u101 u102 u103 u104 u105 u106 u107 u108 u109 u110 u111 u112 u113 u114 u115 u116 u117 u118 u119 u120 u121 D W (Nat.le_refl _) (by simp) (fun _ => rfl) hv hrow hBk (HXR.out.trans (show Ext wr W from Below.trans HX1.out hB)) (mcons D W hD hK hMW)
      case stop =>
        rintro D c pre W hD hpre ⟨rfl, rfl, ⟨⟨v, hv, hrow, _⟩, hBk, hMW⟩, hB⟩ hK
        have hpf := glueP_prefix hpre
        rw [HGL.out] at hpf
        refine wpIn_exit ?_
        refine inBlock_self ?_
        exact tail (glueP pre) v u17 u72 u73 u75 u76 u77 u78 u79 u80 u81 u82 u83 u84 u85 u86 u87 u88 u89 u90 u91 u92 u93 u94 u95 u96 u97 u98 u99 u100 u101 u102 u103 u104 u105 u106 u107 u108 u109 u110 u111 u112 u113 u114 u115 u116 u117 u118 u119 u120 u121 D W hpf.1 hpf.2 (fun h => by cases h) hv hrow hBk (HXR.out.trans (show Ext wr W from Below.trans HX1.out hB)) (mcons D W hD hK hMW)
    · have hk3 : ¬ (k : Int) < 2 := by omega
      have cS := (bS5.mono hxr).cell
      clear hk hk2
      go_wp2_with fail
      refine (c_each p o at_ stop _ (hr5.mono hxr) (tabs_mono (hX5.trans hxr) hT) (by omega)).mono ?_
      rintro e w6 ⟨rfl, hx6⟩
      go_wp2_with fail
      refine (c_live _).mono ?_
      rintro e w7 ⟨rfl, hx7⟩
      have hx8 := hx6.trans hx7
      have bR8 := bR5.mono (hxr.trans hx8)
      have cr := bR8.cell
      have fr := bR8.frozen
      have hM8 := (hMk.ext hx8).others (KeepsOthers.setCell w7 ⟨w.heap.size + 1, 0, none⟩ (.bool true))
      have bT := (bR8.set (.bool true)).cell
      have hlR := bR5.lt
      go_wp2_with fail
      refine leaves_marked Ds _ hM8 (fun W' hb => ⟨.bool true, ?_, rfl, ?_⟩)
      · have bT2 := (hb.cell (p := ⟨w.heap.size + 1, 0, none⟩) hlR).trans bT
        simp [results, bT2, go_sem]
      · exact Below.trans (Below.setCell (hX5.trans (hxr.trans hx8)) (p := ⟨w.heap.size + 1, 0, none⟩) (by simp) _) (hb.mono (by have := hX5.sz; omega))
end Go.Proofs.YtohpekbooapcjaaDoor
