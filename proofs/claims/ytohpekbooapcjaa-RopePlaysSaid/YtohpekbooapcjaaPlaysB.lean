/-
  An act is done.
-/
import Derived.Test.YtohpekbooapcjaaPlaysA
namespace Go.Proofs.Ytohpekbooapcjaa
open Go.RowKit Go.Rp

theorem pick_ext (i : Int) (n : Nat) (hn : 0 < n) : ∃ k : Nat, k < n ∧ ∀ w, Calls Try.prog 48 #[.int .i64 i, .int .i64 (n : Nat)] w fun e w' => e = .returned (.int .i64 (k : Nat)) ∧ Ext w w' := by
  by_cases h1 : i < 0
  · refine ⟨0, hn, fun w => ?_⟩
    go_enter Try.func48, Try.ntmps48
    go_wp2_with fail
    exact ret_one rfl rfl rfl ⟨rfl, Ext.refl _⟩
  by_cases h2 : (n : Int) ≤ i
  · refine ⟨0, hn, fun w => ?_⟩
    go_enter Try.func48, Try.ntmps48
    go_wp2_with fail
    exact ret_one rfl rfl rfl ⟨rfl, Ext.refl _⟩
  · obtain ⟨k, rfl⟩ : ∃ k : Nat, i = (k : Int) := ⟨i.toNat, by omega⟩
    refine ⟨k, by omega, fun w => ?_⟩
    have hlt : k < n := by omega
    go_enter Try.func48, Try.ntmps48
    go_wp2_with fail
    exact ret_one rfl rfl rfl ⟨rfl, Ext.refl _⟩

theorem c_refSlice_zero (s : ByteArray) (j : Nat) (w : World) (hs : s.size ≤ 1099511627776) (hj : j ≤ s.size) :
    Calls Try.prog 51 #[.string s, .int .i64 0, .int .i64 (j : Nat)] w fun e w' => e = .returned (.tuple #[.string (s.extract 0 j), .int .i64 0]) ∧ w' = w := c_refSlice s 0 j w hs (by omega) hj

/-- What an act leaves. -/
def Done (w0 : World) (p : Nat) (n : Nat) (e : Ending) (w' : World) : Prop := e = .returned (.bool true) ∧ ∃ rs ss, Some w0 w' p rs ss ∧ n ≤ ss.length ∧ ss.length ≤ n + 2

theorem own_slice {w : World} {base : Nat} {e : TypeId} {v : Value} {xs : List Value} {n : Nat} (h : w.ownsRow base e 1 v n xs) (hn : 0 < n) : ∃ g cap, v = .slice (some ⟨g, 0, none⟩) n cap := by
  obtain ⟨k, rfl⟩ : ∃ k, n = k + 1 := ⟨n - 1, by omega⟩
  exact ownsRow_succ h

set_option maxRecDepth 100000 in
set_option maxHeartbeats 16000000 in
theorem c_does (w0 : World) (p : Nat) (rs : List Value) (ss : List ByteArray) (w : World) (K A B F G : Int) (S : ByteArray) (hso : Some w0 w p rs ss) (hne : 0 < ss.length) (hn : ss.length ≤ 998) (hS : S.size ≤ 1048576) :
    Calls Try.prog 37 #[.pointer (some ⟨p, 0, none⟩), .agg #[.int .i64 K, .int .i64 A, .int .i64 B, .int .i64 F, .int .i64 G, .string S]] w (Done w0 p ss.length) := by
  obtain ⟨v1, v2, hst⟩ := hso
  have hlen := hst.len
  have hrp : 0 < rs.length := by omega
  obtain ⟨g1, cap1, rfl⟩ := own_slice hst.own1 hrp
  obtain ⟨g2, cap2, rfl⟩ := own_slice hst.own2 hne
  obtain ⟨i, hi, cI⟩ := pick_ext A rs.length hrp
  obtain ⟨k, hk, cK⟩ := pick_ext B rs.length hrp
  have hi2 : i < ss.length := by omega
  have hk2 : k < ss.length := by omega
  have hrn : rs.length ≤ 998 := by omega
  obtain ⟨oi, hoi, ei⟩ := hst.all i hi hi2
  obtain ⟨ok, hok, ek⟩ := hst.all k hk hk2
  obtain ⟨pi, hpi⟩ := hoi.ptr
  obtain ⟨pk, hpk⟩ := hok.ptr
  have zi := hst.small ss[i] (List.getElem_mem hi2)
  have zk := hst.small ss[k] (List.getElem_mem hk2)
  have r1 : rs[i]? = some (.pointer pi) := by rw [List.getElem?_eq_getElem hi, hpi]
  have r2 : rs[k]? = some (.pointer pk) := by rw [List.getElem?_eq_getElem hk, hpk]
  have s1 : (ss.map Value.string)[i]? = some (.string (txt oi)) := by rw [List.getElem?_map, List.getElem?_eq_getElem hi2, ei]; rfl
  have s2 : (ss.map Value.string)[k]? = some (.string (txt ok)) := by rw [List.getElem?_map, List.getElem?_eq_getElem hk2, ek]; rfl
  rw [hpi] at hoi
  rw [hpk] at hok
  rw [← ei] at zi
  rw [← ek] at zk
  have R1 := Lib.hid r1
  have R2 := Lib.hid r2
  have S1 := Lib.hid s1
  have S2 := Lib.hid s2
  have CI := Lib.hid cI
  have CK := Lib.hid cK
  clear r1 r2 s1 s2 ei ek hpi hpk cI cK hlen
  go_enter Try.func37, Try.ntmps37
  go_upto_region 1 with fail
  refine wp_gen (fun W => Ext w W ∧ W.heap[w.heap.size]? = some (.cells #[.int .i64 K, .int .i64 A, .int .i64 B, .int .i64 F, .int .i64 G, .string S] 76 (0, 0))) ⟨(Ext.refl w).alloc _, alloc_blk _ _⟩ (fun w1 hw1 => ?_)
  obtain ⟨hx1, hb1⟩ := hw1
  replace hst := hst.mono hx1
  replace hoi := hoi.mono hx1
  replace hok := hok.mono hx1
  obtain ⟨b, hb⟩ : ∃ b, w.heap.size = b := ⟨_, rfl⟩
  rw [hb] at hb1 ⊢
  clear hx1 hb
  have q0 : ∀ w', Ext w1 w' → ∀ i, w'.cell? ⟨b, i, none⟩ = _ := fun w' h i => cell_blk (h.blk hb1) i
  have q1 : ∀ w', Ext w1 w' → ∀ i, w'.cell? ⟨p, i, none⟩ = _ := fun w' h i => cell_blk (h.blk hst.blk) i
  refine wp_lex [true, true, true, true, true, true, true, true, true, true, true, true, true, true, true, true, true, true] (by kernel_rfl) (by kernel_rfl) ?_
  repeat first
    | refine wpG_move (by rfl) (by simp only [Act.eval, Array.getD_eq_getD_getElem?, List.getElem?_toArray, List.getElem?_cons_succ, List.getElem?_cons_zero, Option.getD_some]; try rfl) (by simp only [Act.put, List.setIfInBounds_toArray, List.set_cons_succ, List.set_cons_zero]; rfl) ?_
    | refine wpG_assign (by rfl) (by simp only [Act.eval, Array.getD_eq_getD_getElem?, List.getElem?_toArray, List.getElem?_cons_succ, List.getElem?_cons_zero, Option.getD_some]; try rfl) (by simp only [Act.put, List.setIfInBounds_toArray, List.set_cons_succ, List.set_cons_zero]; rfl) ?_
    | refine wpG_val (by rfl) (fun w' hx => (by go_simp; first | (go_bits; first | exact rfl | exact ⟨by omega, rfl⟩) | exact rfl | exact (if_neg (by omega)).trans rfl | exact ⟨by omega, rfl⟩)) (by simp only [Act.put, List.setIfInBounds_toArray, List.set_cons_succ, List.set_cons_zero]; rfl) ?_
    | refine wpG_no (by rfl) (by simp only [Act.put, List.setIfInBounds_toArray, List.set_cons_succ, List.set_cons_zero]; rfl) ?_
  refine wpG_call (by rfl) (fun w' hx => (by first | (go_simp; done) | (go_simp; exact rfl) | (go_simp; exact ⟨rfl, rfl⟩))) (fun w' hx => CI.out w') (by simp only [Act.put, List.setIfInBounds_toArray, List.set_cons_succ, List.set_cons_zero]; rfl) ?_
  repeat first
    | refine wpG_move (by rfl) (by simp only [Act.eval, Array.getD_eq_getD_getElem?, List.getElem?_toArray, List.getElem?_cons_succ, List.getElem?_cons_zero, Option.getD_some]; try rfl) (by simp only [Act.put, List.setIfInBounds_toArray, List.set_cons_succ, List.set_cons_zero]; rfl) ?_
    | refine wpG_assign (by rfl) (by simp only [Act.eval, Array.getD_eq_getD_getElem?, List.getElem?_toArray, List.getElem?_cons_succ, List.getElem?_cons_zero, Option.getD_some]; try rfl) (by simp only [Act.put, List.setIfInBounds_toArray, List.set_cons_succ, List.set_cons_zero]; rfl) ?_
    | refine wpG_val (by rfl) (fun w' hx => (by go_simp; first | (go_bits; first | exact rfl | exact ⟨by omega, rfl⟩) | exact rfl | exact (if_neg (by omega)).trans rfl | exact ⟨by omega, rfl⟩)) (by simp only [Act.put, List.setIfInBounds_toArray, List.set_cons_succ, List.set_cons_zero]; rfl) ?_
    | refine wpG_no (by rfl) (by simp only [Act.put, List.setIfInBounds_toArray, List.set_cons_succ, List.set_cons_zero]; rfl) ?_
  refine wpG_call (by rfl) (fun w' hx => (by first | (go_simp; done) | (go_simp; exact rfl) | (go_simp; exact ⟨rfl, rfl⟩))) (fun w' hx => CK.out w') (by simp only [Act.put, List.setIfInBounds_toArray, List.set_cons_succ, List.set_cons_zero]; rfl) ?_
  repeat first
    | refine wpG_move (by rfl) (by simp only [Act.eval, Array.getD_eq_getD_getElem?, List.getElem?_toArray, List.getElem?_cons_succ, List.getElem?_cons_zero, Option.getD_some]; try rfl) (by simp only [Act.put, List.setIfInBounds_toArray, List.set_cons_succ, List.set_cons_zero]; rfl) ?_
    | refine wpG_assign (by rfl) (by simp only [Act.eval, Array.getD_eq_getD_getElem?, List.getElem?_toArray, List.getElem?_cons_succ, List.getElem?_cons_zero, Option.getD_some]; try rfl) (by simp only [Act.put, List.setIfInBounds_toArray, List.set_cons_succ, List.set_cons_zero]; rfl) ?_
    | refine wpG_val (by rfl) (fun w' hx => (by go_simp; first | (go_bits; first | exact rfl | exact ⟨by omega, rfl⟩) | exact rfl | exact (if_neg (by omega)).trans rfl | exact ⟨by omega, rfl⟩)) (by simp only [Act.put, List.setIfInBounds_toArray, List.set_cons_succ, List.set_cons_zero]; rfl) ?_
    | refine wpG_no (by rfl) (by simp only [Act.put, List.setIfInBounds_toArray, List.set_cons_succ, List.set_cons_zero]; rfl) ?_
  refine wpG_end (fun w2 hx => wpList_nil (gQ_normal ?_))
  replace hst := hst.mono hx
  replace hoi := hoi.mono hx
  replace hok := hok.mono hx
  replace hb1 := hx.blk hb1
  clear hx q0 q1
  have q1 : ∀ w', Ext w2 w' → ∀ i, w'.cell? ⟨p, i, none⟩ = _ := fun w' h i => cell_blk (h.blk hst.blk) i
  have q3 : ∀ w', Ext w2 w' → w'.cell? ⟨g1, i, none⟩ = some (.pointer pi) := fun w' h => ((ownsRow_ext hst.own1 h).cellAt i (by omega)).trans R1.out
  have q4 : ∀ w', Ext w2 w' → w'.cell? ⟨g2, i, none⟩ = some (.string (txt oi)) := fun w' h => ((ownsRow_ext hst.own2 h).cellAt i (by omega)).trans S1.out
  go_upto_region 2 with fail
  refine wp_lex [true, true, true, true, true, true, true, true, true, true, true, true, true, true, true, true] (by kernel_rfl) (by kernel_rfl) ?_
  repeat first
    | refine wpG_move (by rfl) (by simp only [Act.eval, Array.getD_eq_getD_getElem?, List.getElem?_toArray, List.getElem?_cons_succ, List.getElem?_cons_zero, Option.getD_some]; try rfl) (by simp only [Act.put, List.setIfInBounds_toArray, List.set_cons_succ, List.set_cons_zero]; rfl) ?_
    | refine wpG_assign (by rfl) (by simp only [Act.eval, Array.getD_eq_getD_getElem?, List.getElem?_toArray, List.getElem?_cons_succ, List.getElem?_cons_zero, Option.getD_some]; try rfl) (by simp only [Act.put, List.setIfInBounds_toArray, List.set_cons_succ, List.set_cons_zero]; rfl) ?_
    | refine wpG_val (by rfl) (fun w' hx => (by go_simp; first | (go_bits; first | exact rfl | exact ⟨by omega, rfl⟩) | exact rfl | exact (if_neg (by omega)).trans rfl | exact ⟨by omega, rfl⟩)) (by simp only [Act.put, List.setIfInBounds_toArray, List.set_cons_succ, List.set_cons_zero]; rfl) ?_
    | refine wpG_no (by rfl) (by simp only [Act.put, List.setIfInBounds_toArray, List.set_cons_succ, List.set_cons_zero]; rfl) ?_
  refine wpG_end (fun w3 hx => wpList_nil (gQ_normal ?_))
  replace hst := hst.mono hx
  replace hoi := hoi.mono hx
  replace hok := hok.mono hx
  replace hb1 := hx.blk hb1
  clear hx q1 q3 q4
  have hc := cell_blk hb1
  by_cases k1 : K = 1
  · subst k1
    go_wp2_with fail
    refine (c_New S _ hS).mono ?_
    rintro e u1 ⟨vr, or, rfl, hr, he, hx⟩
    replace hst := hst.mono hx
    replace hoi := hoi.mono hx
    replace hok := hok.mono hx
    replace hb1 := hx.blk hb1
    clear hx hc
    have hc := cell_blk hb1
    go_wp2_with fail
    refine (c_lay w0 p _ _ rs ss vr or S _ hst hr he hS (by omega)).mono ?_
    rintro e u2 ⟨rfl, hs2, hkb⟩
    go_wp2_with fail
    exact ret_one rfl rfl rfl ⟨rfl, _, _, hs2, by simp, by simp⟩
  by_cases k2 : K = 2
  · subst k2
    have c3 := cell_blk hst.blk
    have c4 := (hst.own1.cellAt k (by omega)).trans R2.out
    have hki : (k : Int) < (rs.length : Nat) := by omega
    by_cases hbig : 1048576 < (txt oi).size + (txt ok).size
    · go_wp2_with fail
      refine (c_Join_long _ _ oi ok _ hoi hok zi zk hbig).mono ?_
      rintro e u1 ⟨rfl, hx⟩
      clear c3 c4
      replace hst := hst.mono hx
      replace hoi := hoi.mono hx
      replace hok := hok.mono hx
      replace hb1 := hx.blk hb1
      clear hx hc
      have hc := cell_blk hb1
      have c3 := cell_blk hst.blk
      have c5 := (hst.own2.cellAt k (by omega)).trans S2.out
      have hki2 : (k : Int) < (ss.length : Nat) := by omega
      go_wp2_with fail
      refine (c_refJoin_long (txt oi) (txt ok) _ zi zk hbig).mono ?_
      rintro e u2 ⟨rfl, rfl⟩
      clear c3 c5
      go_wp2_with fail
      refine (c_lay_no p 1 _ (by decide)).mono ?_
      rintro e u3 ⟨rfl, rfl⟩
      go_wp2_with fail
      exact ret_one rfl rfl rfl ⟨rfl, rs, ss, ⟨_, _, hst⟩, by omega, by omega⟩
    · have hsm : (txt oi).size + (txt ok).size ≤ 1048576 := by omega
      go_wp2_with fail
      refine (c_Join _ _ oi ok _ hoi hok zi zk hsm).mono ?_
      rintro e u1 ⟨vr, or, rfl, hr, he, hx⟩
      clear c3 c4
      replace hst := hst.mono hx
      replace hoi := hoi.mono hx
      replace hok := hok.mono hx
      replace hb1 := hx.blk hb1
      clear hx hc
      have hc := cell_blk hb1
      have c3 := cell_blk hst.blk
      have c5 := (hst.own2.cellAt k (by omega)).trans S2.out
      have hki2 : (k : Int) < (ss.length : Nat) := by omega
      have HE := Lib.hid he
      clear he
      go_wp2_with fail
      refine (c_refJoin (txt oi) (txt ok) _ zi zk hsm).mono ?_
      rintro e u2 ⟨rfl, rfl⟩
      clear c3 c5
      go_wp2_with fail
      refine (c_lay w0 p _ _ rs ss vr or (txt oi ++ txt ok) _ hst hr HE.out (by rw [ByteArray.size_append]; exact hsm) (by omega)).mono ?_
      rintro e u3 ⟨rfl, hs2, hkb⟩
      go_wp2_with fail
      exact ret_one rfl rfl rfl ⟨rfl, _, _, hs2, by simp, by simp⟩
  by_cases k3 : K = 3
  · subst k3
    clear k1 k2
    by_cases hno : noPart (txt oi) F G
    · have HN := Lib.hid hno
      clear hno
      go_wp2_with fail
      refine (c_Slice_no _ oi F G _ hoi zi HN.out).mono ?_
      rintro e u1 ⟨rfl, hx⟩
      replace hst := hst.mono hx
      replace hoi := hoi.mono hx
      replace hok := hok.mono hx
      replace hb1 := hx.blk hb1
      clear hx hc
      have hc := cell_blk hb1
      go_wp2_with fail
      refine (c_refSlice_no (txt oi) F G _ (by omega) HN.out).mono ?_
      rintro e u2 ⟨rfl, rfl⟩
      go_wp2_with fail
      refine (c_lay_no p 200 _ (by decide)).mono ?_
      rintro e u3 ⟨rfl, rfl⟩
      go_wp2_with fail
      exact ret_one rfl rfl rfl ⟨rfl, rs, ss, ⟨_, _, hst⟩, by omega, by omega⟩
    · have hv : 0 ≤ F ∧ F ≤ G ∧ G ≤ (txt oi).size := by unfold noPart at hno; omega
      obtain ⟨f, rfl⟩ : ∃ f : Nat, F = (f : Int) := ⟨F.toNat, by omega⟩
      obtain ⟨g, rfl⟩ : ∃ g : Nat, G = (g : Int) := ⟨G.toNat, by omega⟩
      have hfg : f ≤ g := by omega
      have hgz : g ≤ (txt oi).size := by omega
      clear hno hv
      go_wp2_with fail
      refine (c_Slice _ oi f g _ hoi zi hfg hgz).mono ?_
      rintro e u1 ⟨vr, or, rfl, hr, he, hx⟩
      replace hst := hst.mono hx
      replace hoi := hoi.mono hx
      replace hok := hok.mono hx
      replace hb1 := hx.blk hb1
      clear hx hc
      have hc := cell_blk hb1
      have HE := Lib.hid he
      clear he
      go_wp2_with fail
      refine (c_refSlice (txt oi) f g _ (by omega) hfg hgz).mono ?_
      rintro e u2 ⟨rfl, rfl⟩
      go_wp2_with fail
      refine (c_lay w0 p _ _ rs ss vr or ((txt oi).extract f g) _ hst hr HE.out (by rw [ByteArray.size_extract]; omega) (by omega)).mono ?_
      rintro e u3 ⟨rfl, hs2, hkb⟩
      go_wp2_with fail
      exact ret_one rfl rfl rfl ⟨rfl, _, _, hs2, by simp, by simp⟩
  by_cases k4 : K = 4
  · subst k4
    clear k1 k2 k3
    by_cases hno : F < 0 ∨ ((txt oi).size : Int) < F
    · have HN := Lib.hid hno
      clear hno
      go_wp2_with fail
      refine (c_Cut_no _ oi F _ hoi zi HN.out).mono ?_
      rintro e u1 ⟨rfl, hx⟩
      replace hst := hst.mono hx
      replace hoi := hoi.mono hx
      replace hok := hok.mono hx
      replace hb1 := hx.blk hb1
      clear hx hc
      have hc := cell_blk hb1
      go_wp2_with fail
      refine (c_refSlice_no (txt oi) 0 F _ (by omega) (by have := HN.out; unfold noPart; omega)).mono ?_
      rintro e u2 ⟨rfl, rfl⟩
      go_wp2_with fail
      refine (c_lay_no p 200 _ (by decide)).mono ?_
      rintro e u3 ⟨rfl, rfl⟩
      go_wp2_with fail
      exact ret_one rfl rfl rfl ⟨rfl, rs, ss, ⟨_, _, hst⟩, by omega, by omega⟩
    · obtain ⟨f, rfl⟩ : ∃ f : Nat, F = (f : Int) := ⟨F.toNat, by omega⟩
      have hf : f ≤ (txt oi).size := by omega
      clear hno
      go_wp2_with fail
      refine (c_Cut _ oi f _ hoi zi hf).mono ?_
      rintro e u1 ⟨vp, vq, op, oq, rfl, hP, hQ, ep, eq, hx⟩
      replace hst := hst.mono hx
      replace hoi := hoi.mono hx
      replace hok := hok.mono hx
      replace hb1 := hx.blk hb1
      clear hx hc
      have hc := cell_blk hb1
      have EP := Lib.hid ep
      have EQ := Lib.hid eq
      clear ep eq
      go_wp2_with fail
      refine (c_refSlice_zero (txt oi) f _ (by omega) hf).mono ?_
      rintro e u2 ⟨rfl, rfl⟩
      go_wp2_with fail
      refine (c_lay w0 p _ _ rs ss vp op ((txt oi).extract 0 f) _ hst hP EP.out (by rw [ByteArray.size_extract]; omega) (by omega)).mono ?_
      rintro e u3 ⟨rfl, ⟨v1', v2', hst2⟩, hkb⟩
      replace hb1 := hkb _ _ _ _ hb1 (by decide) (by decide) (by decide)
      have hQ2 := hQ.keep hkb
      clear hst hoi hok hc hP hQ hkb
      have hc := cell_blk hb1
      go_wp2_with fail
      refine (c_lay w0 p _ _ (rs ++ [vp]) (ss ++ [(txt oi).extract 0 f]) vq oq ((txt oi).extract f (txt oi).size) _ hst2 hQ2 EQ.out (by rw [ByteArray.size_extract]; omega) (by simp; omega)).mono ?_
      rintro e u4 ⟨rfl, hs3, hkb3⟩
      go_wp2_with fail
      exact ret_one rfl rfl rfl ⟨rfl, _, _, hs3, by simp, by simp⟩
  by_cases k5 : K = 5
  · subst k5
    clear k1 k2 k3 k4
    by_cases hno : F < 0 ∨ ((txt oi).size : Int) < F
    · have HN := Lib.hid hno
      clear hno
      go_wp2_with fail
      refine (c_Insert_no _ oi F S _ hoi zi HN.out).mono ?_
      rintro e u1 ⟨rfl, hx⟩
      replace hst := hst.mono hx
      replace hoi := hoi.mono hx
      replace hok := hok.mono hx
      replace hb1 := hx.blk hb1
      clear hx hc
      have hc := cell_blk hb1
      go_wp2_with fail
      refine (c_refInsert_no (txt oi) S F _ (by omega) HN.out).mono ?_
      rintro e u2 ⟨rfl, rfl⟩
      go_wp2_with fail
      refine (c_lay_no p 200 _ (by decide)).mono ?_
      rintro e u3 ⟨rfl, rfl⟩
      go_wp2_with fail
      exact ret_one rfl rfl rfl ⟨rfl, rs, ss, ⟨_, _, hst⟩, by omega, by omega⟩
    obtain ⟨f, rfl⟩ : ∃ f : Nat, F = (f : Int) := ⟨F.toNat, by omega⟩
    have hf : f ≤ (txt oi).size := by omega
    clear hno
    by_cases hbig : 1048576 < (txt oi).size + S.size
    · go_wp2_with fail
      refine (c_Insert_long _ oi f S _ hoi zi (by omega) hf hbig).mono ?_
      rintro e u1 ⟨rfl, hx⟩
      replace hst := hst.mono hx
      replace hoi := hoi.mono hx
      replace hok := hok.mono hx
      replace hb1 := hx.blk hb1
      clear hx hc
      have hc := cell_blk hb1
      go_wp2_with fail
      refine (c_refInsert_long (txt oi) S f _ zi (by omega) hbig hf).mono ?_
      rintro e u2 ⟨rfl, rfl⟩
      go_wp2_with fail
      refine (c_lay_no p 1 _ (by decide)).mono ?_
      rintro e u3 ⟨rfl, rfl⟩
      go_wp2_with fail
      exact ret_one rfl rfl rfl ⟨rfl, rs, ss, ⟨_, _, hst⟩, by omega, by omega⟩
    · have hsm : (txt oi).size + S.size ≤ 1048576 := by omega
      go_wp2_with fail
      refine (c_Insert _ oi f S _ hoi zi hf hsm).mono ?_
      rintro e u1 ⟨vr, or, rfl, hr, he, hx⟩
      replace hst := hst.mono hx
      replace hoi := hoi.mono hx
      replace hok := hok.mono hx
      replace hb1 := hx.blk hb1
      clear hx hc
      have hc := cell_blk hb1
      have HE := Lib.hid he
      clear he
      go_wp2_with fail
      refine (c_refInsert (txt oi) S f _ hsm hf).mono ?_
      rintro e u2 ⟨rfl, hx⟩
      replace hr := hr.mono hx
      replace hst := hst.mono hx
      replace hoi := hoi.mono hx
      replace hok := hok.mono hx
      replace hb1 := hx.blk hb1
      clear hx hc
      have hc := cell_blk hb1
      go_wp2_with fail
      refine (c_lay w0 p _ _ rs ss vr or _ _ hst hr HE.out (by rw [ByteArray.size_append, ByteArray.size_append, ByteArray.size_extract, ByteArray.size_extract]; omega) (by omega)).mono ?_
      rintro e u3 ⟨rfl, hs2, hkb⟩
      go_wp2_with fail
      exact ret_one rfl rfl rfl ⟨rfl, _, _, hs2, by simp, by simp⟩
  by_cases k6 : K = 6
  · subst k6
    clear k1 k2 k3 k4 k5
    by_cases hno : noPart (txt oi) F G
    · have HN := Lib.hid hno
      clear hno
      go_wp2_with fail
      refine (c_Delete_no _ oi F G _ hoi zi HN.out).mono ?_
      rintro e u1 ⟨rfl, hx⟩
      replace hst := hst.mono hx
      replace hoi := hoi.mono hx
      replace hok := hok.mono hx
      replace hb1 := hx.blk hb1
      clear hx hc
      have hc := cell_blk hb1
      go_wp2_with fail
      refine (c_refDelete_no (txt oi) F G _ (by omega) HN.out).mono ?_
      rintro e u2 ⟨rfl, rfl⟩
      go_wp2_with fail
      refine (c_lay_no p 200 _ (by decide)).mono ?_
      rintro e u3 ⟨rfl, rfl⟩
      go_wp2_with fail
      exact ret_one rfl rfl rfl ⟨rfl, rs, ss, ⟨_, _, hst⟩, by omega, by omega⟩
    · have hv : 0 ≤ F ∧ F ≤ G ∧ G ≤ (txt oi).size := by unfold noPart at hno; omega
      obtain ⟨f, rfl⟩ : ∃ f : Nat, F = (f : Int) := ⟨F.toNat, by omega⟩
      obtain ⟨g, rfl⟩ : ∃ g : Nat, G = (g : Int) := ⟨G.toNat, by omega⟩
      have hfg : f ≤ g := by omega
      have hgz : g ≤ (txt oi).size := by omega
      clear hno hv
      go_wp2_with fail
      refine (c_Delete _ oi f g _ hoi zi hfg hgz).mono ?_
      rintro e u1 ⟨vr, or, rfl, hr, he, hx⟩
      replace hst := hst.mono hx
      replace hoi := hoi.mono hx
      replace hok := hok.mono hx
      replace hb1 := hx.blk hb1
      clear hx hc
      have hc := cell_blk hb1
      have HE := Lib.hid he
      clear he
      go_wp2_with fail
      refine (c_refDelete (txt oi) f g _ (by omega) hfg hgz).mono ?_
      rintro e u2 ⟨rfl, hx⟩
      replace hr := hr.mono hx
      replace hst := hst.mono hx
      replace hoi := hoi.mono hx
      replace hok := hok.mono hx
      replace hb1 := hx.blk hb1
      clear hx hc
      have hc := cell_blk hb1
      go_wp2_with fail
      refine (c_lay w0 p _ _ rs ss vr or _ _ hst hr HE.out (by rw [ByteArray.size_append, ByteArray.size_extract, ByteArray.size_extract]; omega) (by omega)).mono ?_
      rintro e u3 ⟨rfl, hs2, hkb⟩
      go_wp2_with fail
      exact ret_one rfl rfl rfl ⟨rfl, _, _, hs2, by simp, by simp⟩
  go_wp2_with fail
  exact ret_one rfl rfl rfl ⟨rfl, rs, ss, ⟨_, _, hst⟩, by omega, by omega⟩
end Go.Proofs.Ytohpekbooapcjaa
