/-
  A text in rows.
-/
import Derived.Test.YtlmkbldiicbejaaGreatDoorWrO
namespace Go.Proofs.YtlmkbldiicbejaaGreatDoor
open Go.RowKit Go.Rp Go.Maps Go.Cl Go.Shelf Go.Gr Go.Ln

/-- A row. -/
structure Rw where
  f : Nat
  t : Nat
  e : Nat
  i : Int
  h : Bool
def gP (L : List Pc) (n : Nat) : Pc := L.getD n ⟨⟨0, 0, 0, false⟩, 0⟩
def lastP (L : List Pc) (n : Nat) : Bool := (gP L n).b.m || n + 1 == L.length
noncomputable def rwOf (s : ByteArray) (L : List Pc) (F R : Int) (fr : Nat) (fi : Bool) (n : Nat) : Rw :=
  ⟨fr, fr + trailL okT (s.extract fr (gP L n).e).size (s.extract fr (gP L n).e).data.toList, (gP L n).e, if fi then F else R, decide (0 < (gP L n).b.h) && !lastP L n⟩
noncomputable def rowS (s : ByteArray) (L : List Pc) (F R : Int) : Nat → Bool → List Nat → List Rw
  | _, _, [] => []
  | fr, fi, n :: ns => rwOf s L F R fr fi n :: rowS s L F R (gP L n).e (lastP L n) ns
def stE (L : List Pc) (fr : Nat) (x : List Nat) : Nat := x.foldl (fun _ n => (gP L n).e) fr
def stB (L : List Pc) (fi : Bool) (x : List Nat) : Bool := x.foldl (fun _ n => lastP L n) fi
theorem rowS_app (s : ByteArray) (L : List Pc) (F R : Int) (n : Nat) : ∀ (x : List Nat) (fr : Nat) (fi : Bool), rowS s L F R fr fi (x ++ [n]) = rowS s L F R fr fi x ++ [rwOf s L F R (stE L fr x) (stB L fi x) n]
  | [], _, _ => rfl
  | m :: x, fr, fi => by
    rw [List.cons_append, rowS, rowS, rowS_app s L F R n x, List.cons_append]
    rfl
theorem stE_app (L : List Pc) (fr n : Nat) (x : List Nat) : stE L fr (x ++ [n]) = (gP L n).e := by simp [stE]
theorem stB_app (L : List Pc) (fi : Bool) (n : Nat) (x : List Nat) : stB L fi (x ++ [n]) = lastP L n := by simp [stB]
def rwW (l : List Rw) : List Value := l.flatMap fun p => [.int .i64 (p.f : Nat), .int .i64 (p.t : Nat), .int .i64 (p.e : Nat), .int .i64 p.i, .bool p.h]
theorem rwW_app (x y : List Rw) : rwW (x ++ y) = rwW x ++ rwW y := by simp [rwW]
theorem Tryz.infoRw : (Tryz.prog.info? 53).map (fun i => (i.zero, i.size, i.bytes)) = some (some (.agg #[.int .i64 0, .int .i64 0, .int .i64 0, .int .i64 0, .bool false]), 5, 40) := by kernel_rfl
theorem rb_step {w3 W : World} {Y rb n : Nat} {c : Array Value} {v : Value} {xs : List Value} (hx : Ext w3 W) (hb : W.heap[rb]? = some (.cells c 53 (0, 0))) (ho : W.ownsRow Y 53 5 v n xs) (hne : v.ownBlock ≠ some rb) (hrb : w3.heap.size ≤ rb) (i : Nat) (u : Value) :
    Ext w3 (W.setCell ⟨rb, i, none⟩ u) ∧ (W.setCell ⟨rb, i, none⟩ u).heap[rb]? = some (.cells (c.setIfInBounds i u) 53 (0, 0)) ∧ (W.setCell ⟨rb, i, none⟩ u).ownsRow Y 53 5 v n xs :=
  ⟨Below.setCell hx (p := ⟨rb, i, none⟩) hrb _, set_blk hb i u, ho.kept (grown_cell _ _ _ _) (.inr hne)⟩
set_option maxRecDepth 100000 in
set_option maxHeartbeats 8000000 in
theorem c_Rows (a tb st : Nat) (W F R H : Int) (s : ByteArray) (L : List Pc) (E : List Nat) (w : World) (ho : CellOk a tb st) (hT : TabsW w) (hz : s.size ≤ 60) (hL : pcS a tb s 0 (chK s) = L) (hne : 0 < L.length)
    (hwr : WrOk W F R H) (hsm : SmB (L.map fun p => p.b)) (hE : Wp.linesK ⟨W, F, R⟩ (H == 1) (L.map fun p => p.b) = E) (hn : ∀ n ∈ E, n < L.length) (hfr : ∀ i (h : i < E.length), stE L 0 (E.take i) ≤ (gP L E[i]).e) (hsz : ∀ p ∈ L, p.e ≤ s.size) :
    Calls Tryz.prog 22 #[.string s, .agg #[.int .i64 (a : Nat), .int .i64 (tb : Nat), .int .i64 (st : Nat)], .agg #[.int .i64 W, .int .i64 F, .int .i64 R, .int .i64 H]] w fun e w' => ∃ v, e = .returned (.tuple #[v, .int .i64 0]) ∧ w'.ownsRow w.heap.size 53 5 v E.length (rwW (rowS s L F R 0 true E)) ∧ Ext w w' := by
  have HP := Lib.hid (fun W (h : Ext w W) => c_pieces a tb st s W ho (hT.ext h) (by omega))
  have HBX := Lib.hid (fun W (h : Ext w W) => c_Boxes a tb st s W ho (hT.ext h) (by omega))
  have HTR := Lib.hid (fun (t : ByteArray) W (h : Ext w W) (ht : t.size ≤ 65536) => c_Trail t W (hT.ext h) ht)
  have hlen : L.length ≤ 64 := by rw [← hL, pcS_len]; have := chK_len s; omega
  rw [hL] at HP HBX
  have HWR := Lib.hid hwr
  have HSM := Lib.hid hsm
  have HE := Lib.hid hE
  have HNN := Lib.hid hn
  have HFR := Lib.hid hfr
  have HSZ := Lib.hid hsz
  clear hT hL hwr hsm hE hn hfr hsz ho
  go_enter Tryz.func22, Tryz.ntmps22
  go_wp2_with fail
  have hb0 : ((w.alloc (.cells #[.int .i64 (a : Nat), .int .i64 (tb : Nat), .int .i64 (st : Nat)] 48)).alloc (.cells #[.int .i64 W, .int .i64 F, .int .i64 R, .int .i64 H] 24)).heap[w.heap.size + 1]? = some (.cells #[.int .i64 W, .int .i64 F, .int .i64 R, .int .i64 H] 24 (0, 0)) := by
    have := World.alloc_heap_new (w.alloc (.cells #[.int .i64 (a : Nat), .int .i64 (tb : Nat), .int .i64 (st : Nat)] 48)) (.cells #[.int .i64 W, .int .i64 F, .int .i64 R, .int .i64 H] 24)
    rwa [World.size_alloc] at this
  have ho0 : ((w.alloc (.cells #[.int .i64 (a : Nat), .int .i64 (tb : Nat), .int .i64 (st : Nat)] 48)).alloc (.cells #[.int .i64 W, .int .i64 F, .int .i64 R, .int .i64 H] 24)).heap[w.heap.size]? = some (.cells #[.int .i64 (a : Nat), .int .i64 (tb : Nat), .int .i64 (st : Nat)] 48 (0, 0)) :=
    ((Ext.refl _).alloc _).blk (World.alloc_heap_new w (.cells #[.int .i64 (a : Nat), .int .i64 (tb : Nat), .int .i64 (st : Nat)] 48))
  have hx0 : Ext w ((w.alloc (.cells #[.int .i64 (a : Nat), .int .i64 (tb : Nat), .int .i64 (st : Nat)] 48)).alloc (.cells #[.int .i64 W, .int .i64 F, .int .i64 R, .int .i64 H] 24)) := ((Ext.refl w).alloc _).alloc _
  generalize (w.alloc (.cells #[.int .i64 (a : Nat), .int .i64 (tb : Nat), .int .i64 (st : Nat)] 48)).alloc (.cells #[.int .i64 W, .int .i64 F, .int .i64 R, .int .i64 H] 24) = w0 at hb0 ho0 hx0 ⊢
  obtain ⟨A, hA⟩ : ∃ A, w.heap.size = A := ⟨_, rfl⟩
  have HA := Lib.hid hA
  rw [hA] at hb0 ho0 ⊢
  refine (HP.out w0 hx0).mono ?_
  rintro e w1 ⟨v, rfl, hown, hx1⟩
  obtain ⟨pl, cl, rfl⟩ := own_slice hown
  have HPL := Lib.hid hown
  have HX1 := Lib.hid (hx0.trans hx1)
  have HB1 := Lib.hid (hx1.blk hb0)
  have c0 : w1.cell? ⟨A, 0, none⟩ = some (.int .i64 (a : Nat)) := (cell_blk (hx1.blk ho0) 0).trans rfl
  have c1 : w1.cell? ⟨A, 1, none⟩ = some (.int .i64 (tb : Nat)) := (cell_blk (hx1.blk ho0) 1).trans rfl
  have c2 : w1.cell? ⟨A, 2, none⟩ = some (.int .i64 (st : Nat)) := (cell_blk (hx1.blk ho0) 2).trans rfl
  clear hown hx1 hx0 hb0 ho0 hA HP
  go_wp2_with fail
  refine (HBX.out w1 HX1.out).mono ?_
  rintro e w2 ⟨v, rfl, hown, hx2⟩
  have hbr : BxRow w2 v ((L.map fun p => p.b).map bxI) := by
    have h1 := hown
    rw [← List.length_map (f := fun p : Pc => bxI p.b)] at h1
    have := BxRow.of_own h1
    rwa [List.map_map]
  obtain ⟨pb, cb, rfl⟩ := own_slice hown
  obtain ⟨gb, rfl, _, _, _⟩ := own_at hown hne
  have HBR := Lib.hid hbr
  have HX2 := Lib.hid (HX1.out.trans hx2)
  replace HPL := Lib.hid (ownsRow_ext HPL.out hx2)
  replace HB1 := Lib.hid (hx2.blk HB1.out)
  have m0 : w2.cell? ⟨A + 1, 0, none⟩ = some (.int .i64 W) := (cell_blk HB1.out 0).trans rfl
  have m1 : w2.cell? ⟨A + 1, 1, none⟩ = some (.int .i64 F) := (cell_blk HB1.out 1).trans rfl
  have m2 : w2.cell? ⟨A + 1, 2, none⟩ = some (.int .i64 R) := (cell_blk HB1.out 2).trans rfl
  have m3 : w2.cell? ⟨A + 1, 3, none⟩ = some (.int .i64 H) := (cell_blk HB1.out 3).trans rfl
  have HLN := Lib.hid (c_Lines gb 0 cb W F R H (L.map fun p => p.b) w2 (by rw [List.length_map]; exact hbr) HSM.out (by rw [List.length_map]; exact hlen) HWR.out)
  rw [List.length_map, HE.out] at HLN
  clear hown hx2 hbr HBX c0 c1 c2
  go_wp2_with fail
  refine HLN.out.mono ?_
  rintro e w3 ⟨v, rfl, hown, hx3⟩
  obtain ⟨pe, ce, rfl⟩ := own_slice hown
  have HER := Lib.hid hown
  have HX3 := Lib.hid (HX2.out.trans hx3)
  replace HPL := Lib.hid (ownsRow_ext HPL.out hx3)
  replace HB1 := Lib.hid (hx3.blk HB1.out)
  clear hown hx3 m0 m1 m2 m3 HLN
  go_wp2_with fail
  obtain ⟨Y, hY⟩ : ∃ Y, w3.heap.size = Y := ⟨_, rfl⟩
  have HY := Lib.hid hY
  clear hY
  go_loopw [13, 14, 15, 17, 18, 19, 46] (fun ov fv bv _ _ _ iv V => ∃ (i : Nat) (fi : Bool) (fr : Nat), iv = .int .i64 (i : Nat) ∧ i ≤ E.length ∧ fv = .int .i64 (fr : Nat) ∧ bv = .bool fi ∧ Hid (stE L 0 (E.take i) = fr) ∧ Hid (stB L true (E.take i) = fi) ∧ Hid (V.ownsRow Y 53 5 ov i (rwW (rowS s L F R 0 true (E.take i)))) ∧ Hid (Ext w3 V)) (fun _ _ _ _ _ _ iv _ => E.length + 1 - (intOf iv).toNat)
  case atStart => exact ⟨0, true, 0, rfl, Nat.zero_le _, rfl, rfl, Lib.hid rfl, Lib.hid rfl, Lib.hid (World.ownsRow_nil _ _ _ _), Lib.hid (Ext.refl _)⟩
  case round =>
    obtain ⟨i, fi, fr, rfl, hi, rfl, rfl, HSE, HSB, HO, HX⟩ := hrel
    obtain ⟨V, rfl⟩ : ∃ V, V = wr := ⟨_, rfl⟩
    obtain ⟨po, co, rfl⟩ := own_slice HO.out
    have HEL := Lib.hid (show E.length ≤ 64 by
      have h1 := HE.out
      have h2 : ∀ (ev : Bool) (l : List Wp.Bx), (Wp.linesK ⟨W, F, R⟩ ev l).length ≤ l.length := fun ev l => by
        unfold Wp.linesK
        split
        · have := even_len ⟨W, F, R⟩ l l.length 0 (by omega); omega
        · have := greedy_len ⟨W, F, R⟩ l l.length 0 (by omega); omega
      rw [← h1]
      exact Nat.le_trans (h2 _ _) (by rw [List.length_map]; exact hlen))
    have hEI : ((E.length : Nat) : Int) ≤ 64 := by have := HEL.out; omega
    by_cases hlt : i < E.length
    · have hI : ((i : Nat) : Int) < (E.length : Nat) := by omega
      have hd : decide (i < E.length) = true := decide_eq_true hlt
      obtain ⟨ge, rfl, _, _, hge⟩ := own_at HER.out (by omega)
      obtain ⟨gl, rfl, _, hgl1, hgl⟩ := own_at HPL.out hne
      have hE1 := HX.out.cell ((hge i (by omega)).trans (show (nW E)[i]? = some (.int .i64 (E[i] : Nat)) by simp [nW, hlt]))
      have hnl := HNN.out E[i] (List.getElem_mem hlt)
      have hfe := HFR.out i hlt
      rw [HSE.out] at hfe
      have HTK := Lib.hid (show E.take (i + 1) = E.take i ++ [E[i]] from List.take_succ_eq_append_getElem hlt)
      generalize E[i] = n at hE1 hnl hfe HTK
      have hpl := pcW_len L
      obtain ⟨e0, e1, e2, e3, e4⟩ := pcW_get L n hnl
      have hgp : gP L n = L[n] := by unfold gP; simp [List.getD_eq_getElem?_getD, hnl]
      have hse := HSZ.out L[n] (List.getElem_mem hnl)
      rw [hgp] at hfe
      have d2 := (hgl (n * 5 + 2) (by omega)).trans e2
      have d3 := (hgl (n * 5 + 3) (by omega)).trans e3
      have d4 := (hgl (n * 5 + 4) (by omega)).trans e4
      have HGP := Lib.hid hgp
      generalize L[n] = x at hfe hse d2 d3 d4 HGP
      obtain ⟨⟨xw, xb, xh, xm⟩, xe⟩ := x
      simp only at hfe hse d2 d3 d4
      have HC2 := Lib.hid d2
      have HC3 := Lib.hid d3
      have HC4 := Lib.hid d4
      have HGL1 := Lib.hid hgl1
      have hnI : ((n : Nat) : Int) < (L.length : Nat) := by omega
      have hdn : decide (n < L.length) = true := decide_eq_true hnl
      clear hge hgl e0 e1 e2 e3 e4 hgp hpl d2 d3 d4
      go_wp2_with fail
      have s0 : ∀ w', EOn (fun _ => True) V w' → w'.cell? ⟨gl, n * 5 + 4, none⟩ = some (.int .i64 (xe : Nat)) := fun w' h => h.cell trivial (HX.out.cell HC4.out)
      have s1 : ∀ w', EOn (fun _ => True) V w' → w'.cell? ⟨A + 1, 2, none⟩ = some (.int .i64 R) := fun w' h => h.cell trivial ((cell_blk (HX.out.blk HB1.out) 2).trans rfl)
      refine wp_lex (fun _ => True) [true, true, true, true, true, true, true, true, true, false] (by kernel_rfl) (by kernel_rfl) ?_
      repeat first
        | refine wpG_move' ?_
        | refine wpG_assign' ?_
        | refine wpG_val' ?_
        | refine wpG_no' ?_
      clear s0 s1
      refine wpG_do (by rfl) (fun w5 hx5 K hK => ?_)
      go_wp2_with fail
      have hbr := World.alloc_heap_new w5 (.cells #[.int .i64 0, .int .i64 0, .int .i64 0, .int .i64 0, .bool false] 53)
      refine ⟨EOn.of_ext ((Ext.refl w5).alloc _), ?_⟩
      obtain ⟨rb, hrb⟩ : ∃ rb, w5.heap.size = rb := ⟨_, rfl⟩
      have hxr := hx5.alloc (.cells #[.int .i64 0, .int .i64 0, .int .i64 0, .int .i64 0, .bool false] 53)
      have hVr : V.heap.size ≤ rb := by rw [← hrb]; exact hx5.sz
      generalize w5.alloc (.cells #[.int .i64 0, .int .i64 0, .int .i64 0, .int .i64 0, .bool false] 53) = w6 at hbr hxr ⊢
      rw [hrb] at hbr ⊢
      clear hrb hx5
      refine wpG_end (fun w7 hx7 => ?_)
      have hb7 := hx7.blk hbr
      have HRB := Lib.hid (show w3.heap.size ≤ rb from Nat.le_trans HX.out.sz hVr)
      have HNE := Lib.hid (show (Value.slice po i co).ownBlock ≠ some rb from fun e => by have := (HO.out.lt _ e).2; omega)
      obtain ⟨x1, b1, o1⟩ := rb_step (HX.out.trans (hxr.trans hx7)) hb7 (ownsRow_ext HO.out (hxr.trans hx7)) HNE.out HRB.out 0 (.int .i64 (fr : Nat))
      obtain ⟨x2, b2, o2⟩ := rb_step x1 b1 o1 HNE.out HRB.out 1 (.int .i64 0)
      obtain ⟨x3, b3, o3⟩ := rb_step x2 b2 o2 HNE.out HRB.out 2 (.int .i64 (xe : Nat))
      obtain ⟨x4, b4, o4⟩ := rb_step x3 b3 o3 HNE.out HRB.out 3 (.int .i64 R)
      obtain ⟨x5, b5, o5⟩ := rb_step x4 b4 o4 HNE.out HRB.out 4 (.bool false)
      have f0 := frz_blk hb7 0
      have f1 := frz_blk hb7 1
      have f2 := frz_blk hb7 2
      have f3 := frz_blk hb7 3
      have f4 := frz_blk hb7 4
      have t0 := (cell_blk hb7 0).trans rfl
      have t1 := (cell_blk hb7 1).trans rfl
      have t2 := (cell_blk hb7 2).trans rfl
      have t3 := (cell_blk hb7 3).trans rfl
      have t4 := (cell_blk hb7 4).trans rfl
      have H5 := Lib.hid (And.intro x5 (And.intro b5 o5))
      clear x1 b1 o1 x2 b2 o2 x3 b3 o3 x4 b4 o4 x5 b5 o5 hb7 hbr hxr hx7 hVr
      go_wp2_with fail
      refine gQ_normal ?_
      clear f0 f1 f2 f3 f4 t0 t1 t2 t3 t4
      obtain ⟨x5, b5, o5⟩ := H5.out
      simp only [List.setIfInBounds_toArray, List.set_cons_succ, List.set_cons_zero] at b5
      generalize ((((w7.setCell ⟨rb, 0, none⟩ (.int .i64 (fr : Nat))).setCell ⟨rb, 1, none⟩ (.int .i64 0)).setCell ⟨rb, 2, none⟩ (.int .i64 (xe : Nat))).setCell ⟨rb, 3, none⟩ (.int .i64 R)).setCell ⟨rb, 4, none⟩ (.bool false) = w8 at x5 b5 o5 ⊢
      have HX8 := Lib.hid x5
      have HB8 := Lib.hid b5
      have HO8 := Lib.hid o5
      clear x5 b5 o5 H5
      obtain ⟨TX, hTX⟩ : ∃ TX, s.extract fr xe = TX := ⟨_, rfl⟩
      have hTs : TX.size = xe - fr := by rw [← hTX]; simp; omega
      have HTX := Lib.hid hTX
      have hfI : ((fr : Nat) : Int) ≤ (xe : Nat) := by omega
      have heI : ((xe : Nat) : Int) ≤ (s.size : Nat) := by omega
      have hzI : ((s.size : Nat) : Int) ≤ 60 := by omega
      have hlI : ((L.length : Nat) : Int) ≤ 64 := by omega
      cases fi
      · have HXT := Lib.hid HX8.out
        have HBT := Lib.hid HB8.out
        have HOT := Lib.hid HO8.out
        have u3 : w8.cell? ⟨gl, n * 5 + 3, none⟩ = some (.bool xm) := HX8.out.cell HC3.out
        have u2 : w8.cell? ⟨rb, 2, none⟩ = some (.int .i64 (xe : Nat)) := (cell_blk HB8.out 2).trans rfl
        cases xm
        · by_cases hl : n + 1 = L.length
          · have hq : (((n : Nat) : Int) == ((L.length : Nat) : Int) - 1) = true := beq_iff_eq.2 (by omega)
            have HLB := Lib.hid (show lastP L n = true by unfold lastP; rw [HGP.out]; simp [hl])
            clear hl
            by_cases hh : 0 < xh
            · have hhI : (0 : Int) < (xh : Nat) := by omega
              have HXH := Lib.hid hh
              clear hh
              go_wp2_with fail
              refine (HTR.out TX w8 (HX3.out.trans HXT.out) (by omega)).mono ?_
              rintro e W5 ⟨rfl, hx5⟩
              have HRV := Lib.hid (show rwOf s L F R fr false n = ⟨fr, fr + trailL okT TX.size TX.data.toList, xe, R, false⟩ by
                unfold rwOf
                rw [HGP.out, HTX.out, HLB.out]
                simp [HXH.out])
              have htl := trailL_le okT TX.size TX.data.toList
              rw [len_eq] at htl
              generalize trailL okT TX.size TX.data.toList = TL at htl HRV ⊢
              have htlI : ((fr : Nat) : Int) + (TL : Nat) ≤ 1000 := by omega
              have hb5 := hx5.blk HBT.out
              have hX5 := HXT.out.trans hx5
              have ho5 := ownsRow_ext HOT.out hx5
              obtain ⟨x6, b6, o6⟩ := rb_step hX5 hb5 ho5 HNE.out HRB.out 1 (.int .i64 ((fr : Int) + (TL : Nat)))
              obtain ⟨x7, b7, o7⟩ := rb_step x6 b6 o6 HNE.out HRB.out 4 (.bool false)
              have f5 := frz_blk hb5 1
              have f6 := frz_blk b6 4
              have t5 := (cell_blk hb5 1).trans rfl
              have t6 : (W5.setCell ⟨rb, 1, none⟩ (.int .i64 ((fr : Int) + (TL : Nat)))).cell? ⟨rb, 4, none⟩ = some (.bool false) := (cell_blk b6 4).trans rfl
              have g6 : (W5.setCell ⟨rb, 1, none⟩ (.int .i64 ((fr : Int) + (TL : Nat)))).cell? ⟨gl, n * 5 + 2, none⟩ = some (.int .i64 (xh : Nat)) := x6.cell HC2.out
              have r0 : ((W5.setCell ⟨rb, 1, none⟩ (.int .i64 ((fr : Int) + (TL : Nat)))).setCell ⟨rb, 4, none⟩ (.bool false)).cell? ⟨rb, 0, none⟩ = some (.int .i64 (fr : Nat)) := (cell_blk b7 0).trans rfl
              have r1 : ((W5.setCell ⟨rb, 1, none⟩ (.int .i64 ((fr : Int) + (TL : Nat)))).setCell ⟨rb, 4, none⟩ (.bool false)).cell? ⟨rb, 1, none⟩ = some (.int .i64 ((fr : Int) + (TL : Nat))) := (cell_blk b7 1).trans rfl
              have r2 : ((W5.setCell ⟨rb, 1, none⟩ (.int .i64 ((fr : Int) + (TL : Nat)))).setCell ⟨rb, 4, none⟩ (.bool false)).cell? ⟨rb, 2, none⟩ = some (.int .i64 (xe : Nat)) := (cell_blk b7 2).trans rfl
              have r3 : ((W5.setCell ⟨rb, 1, none⟩ (.int .i64 ((fr : Int) + (TL : Nat)))).setCell ⟨rb, 4, none⟩ (.bool false)).cell? ⟨rb, 3, none⟩ = some (.int .i64 R) := (cell_blk b7 3).trans rfl
              have r4 : ((W5.setCell ⟨rb, 1, none⟩ (.int .i64 ((fr : Int) + (TL : Nat)))).setCell ⟨rb, 4, none⟩ (.bool false)).cell? ⟨rb, 4, none⟩ = some (.bool false) := (cell_blk b7 4).trans rfl
              have H7 := Lib.hid (And.intro x7 (And.intro b7 o7))
              clear hx5 hb5 hX5 ho5 x6 b6 o6 x7 b7 o7
              go_wp2_with (at_builtin; refine Hid.out ?_)
              obtain ⟨x7, b7, o7⟩ := H7.out
              simp only [List.setIfInBounds_toArray, List.set_cons_succ, List.set_cons_zero] at b7
              have hs7 : ((W5.setCell ⟨rb, 1, none⟩ (.int .i64 ((fr : Int) + (TL : Nat)))).setCell ⟨rb, 4, none⟩ (.bool false)).heap.size = W5.heap.size := by simp
              clear H7 r0 r1 r2 r3 r4 g6 f5 f6 t5 t6
              generalize (W5.setCell ⟨rb, 1, none⟩ (.int .i64 ((fr : Int) + (TL : Nat)))).setCell ⟨rb, 4, none⟩ (.bool false) = W7 at x7 b7 o7 hs7 ⊢
              obtain ⟨i0, hi0, hz0, hz1, hz3⟩ := info_parts Tryz.infoRw
              have hnew := World.alloc_heap_new W7 (.cells #[.int .i64 (fr : Nat), .int .i64 ((fr : Int) + (TL : Nat)), .int .i64 (xe : Nat), .int .i64 R, .bool false] 53)
              rw [hs7] at hnew
              have hxa := (Ext.refl W7).alloc (.cells #[.int .i64 (fr : Nat), .int .i64 ((fr : Int) + (TL : Nat)), .int .i64 (xe : Nat), .int .i64 R, .bool false] 53)
              have ho1 := ownsRow_ext o7 hxa
              refine wpList_append_own_at _ rfl (.tmp 97) (.tmp 99) 49 rfl Y 53 i0 (.agg #[.int .i64 0, .int .i64 0, .int .i64 0, .int .i64 0, .bool false]) 5 40 Tryz.underlying49 hi0 hz0 hz1 hz3 rfl (by decide) (.slice po i co) i _ rfl ho1 ⟨W5.heap.size, 0, none⟩ 1 1 [.int .i64 (fr : Nat), .int .i64 ((fr : Int) + (TL : Nat)), .int .i64 (xe : Nat), .int .i64 R, .bool false] rfl rfl (World.news_of_block hnew) (by intro u hu; simp at hu; rcases hu with rfl | rfl | rfl | rfl | rfl <;> rfl) (by have := HEL.out; unfold maxLen; omega) (by have := HEL.out; omega) (by rw [← HY.out]; exact (x7.trans hxa).sz) ?_
              intro v' w9 g1 g2 _ g4
              obtain ⟨p10, c10, rfl⟩ := own_slice g1
              have hX9 := x7.trans hxa
              have HX10 := Lib.hid (show Ext w3 w9 from Below.grown hX9 g2 hX9.sz (fun k e => by have := (ho1.lt k e).1; rw [HY.out]; exact this))
              have HO10 := Lib.hid g1
              have b9 := (g2.block rb (blk_lt (hxa.blk b7)) (fun e => HNE.out e.symm)).trans (hxa.blk b7)
              have r9 : w9.cell? ⟨rb, 2, none⟩ = some (.int .i64 (xe : Nat)) := (cell_blk b9 2).trans rfl
              clear x7 b7 o7 hs7 hnew hxa ho1 g1 g2 g4 hX9 b9
              go_wp2_with fail
              have hTK := HTK.out
              refine ⟨⟨i + 1, true, xe, by simp, by omega, rfl, rfl, Lib.hid (by rw [hTK, stE_app, HGP.out]), Lib.hid (by rw [hTK, stB_app, HLB.out]), Lib.hid ?_, HX10⟩, by simp only [intOf]; omega⟩
              rw [hTK, rowS_app, HSE.out, HSB.out, HRV.out, rwW_app]
              have e5 : rwW [⟨fr, fr + TL, xe, R, false⟩] = [.int .i64 (fr : Nat), .int .i64 ((fr : Int) + (TL : Nat)), .int .i64 (xe : Nat), .int .i64 R, .bool false] := by simp [rwW]
              rw [e5]
              exact HO10.out
            · have hhI : ¬ (0 : Int) < (xh : Nat) := by omega
              have HXH := Lib.hid hh
              clear hh
              go_wp2_with fail
              refine (HTR.out TX w8 (HX3.out.trans HXT.out) (by omega)).mono ?_
              rintro e W5 ⟨rfl, hx5⟩
              have HRV := Lib.hid (show rwOf s L F R fr false n = ⟨fr, fr + trailL okT TX.size TX.data.toList, xe, R, false⟩ by
                unfold rwOf
                rw [HGP.out, HTX.out, HLB.out]
                simp [HXH.out])
              have htl := trailL_le okT TX.size TX.data.toList
              rw [len_eq] at htl
              generalize trailL okT TX.size TX.data.toList = TL at htl HRV ⊢
              have htlI : ((fr : Nat) : Int) + (TL : Nat) ≤ 1000 := by omega
              have hb5 := hx5.blk HBT.out
              have hX5 := HXT.out.trans hx5
              have ho5 := ownsRow_ext HOT.out hx5
              obtain ⟨x6, b6, o6⟩ := rb_step hX5 hb5 ho5 HNE.out HRB.out 1 (.int .i64 ((fr : Int) + (TL : Nat)))
              obtain ⟨x7, b7, o7⟩ := rb_step x6 b6 o6 HNE.out HRB.out 4 (.bool false)
              have f5 := frz_blk hb5 1
              have f6 := frz_blk b6 4
              have t5 := (cell_blk hb5 1).trans rfl
              have t6 : (W5.setCell ⟨rb, 1, none⟩ (.int .i64 ((fr : Int) + (TL : Nat)))).cell? ⟨rb, 4, none⟩ = some (.bool false) := (cell_blk b6 4).trans rfl
              have g6 : (W5.setCell ⟨rb, 1, none⟩ (.int .i64 ((fr : Int) + (TL : Nat)))).cell? ⟨gl, n * 5 + 2, none⟩ = some (.int .i64 (xh : Nat)) := x6.cell HC2.out
              have r0 : ((W5.setCell ⟨rb, 1, none⟩ (.int .i64 ((fr : Int) + (TL : Nat)))).setCell ⟨rb, 4, none⟩ (.bool false)).cell? ⟨rb, 0, none⟩ = some (.int .i64 (fr : Nat)) := (cell_blk b7 0).trans rfl
              have r1 : ((W5.setCell ⟨rb, 1, none⟩ (.int .i64 ((fr : Int) + (TL : Nat)))).setCell ⟨rb, 4, none⟩ (.bool false)).cell? ⟨rb, 1, none⟩ = some (.int .i64 ((fr : Int) + (TL : Nat))) := (cell_blk b7 1).trans rfl
              have r2 : ((W5.setCell ⟨rb, 1, none⟩ (.int .i64 ((fr : Int) + (TL : Nat)))).setCell ⟨rb, 4, none⟩ (.bool false)).cell? ⟨rb, 2, none⟩ = some (.int .i64 (xe : Nat)) := (cell_blk b7 2).trans rfl
              have r3 : ((W5.setCell ⟨rb, 1, none⟩ (.int .i64 ((fr : Int) + (TL : Nat)))).setCell ⟨rb, 4, none⟩ (.bool false)).cell? ⟨rb, 3, none⟩ = some (.int .i64 R) := (cell_blk b7 3).trans rfl
              have r4 : ((W5.setCell ⟨rb, 1, none⟩ (.int .i64 ((fr : Int) + (TL : Nat)))).setCell ⟨rb, 4, none⟩ (.bool false)).cell? ⟨rb, 4, none⟩ = some (.bool false) := (cell_blk b7 4).trans rfl
              have H7 := Lib.hid (And.intro x7 (And.intro b7 o7))
              clear hx5 hb5 hX5 ho5 x6 b6 o6 x7 b7 o7
              go_wp2_with (at_builtin; refine Hid.out ?_)
              obtain ⟨x7, b7, o7⟩ := H7.out
              simp only [List.setIfInBounds_toArray, List.set_cons_succ, List.set_cons_zero] at b7
              have hs7 : ((W5.setCell ⟨rb, 1, none⟩ (.int .i64 ((fr : Int) + (TL : Nat)))).setCell ⟨rb, 4, none⟩ (.bool false)).heap.size = W5.heap.size := by simp
              clear H7 r0 r1 r2 r3 r4 g6 f5 f6 t5 t6
              generalize (W5.setCell ⟨rb, 1, none⟩ (.int .i64 ((fr : Int) + (TL : Nat)))).setCell ⟨rb, 4, none⟩ (.bool false) = W7 at x7 b7 o7 hs7 ⊢
              obtain ⟨i0, hi0, hz0, hz1, hz3⟩ := info_parts Tryz.infoRw
              have hnew := World.alloc_heap_new W7 (.cells #[.int .i64 (fr : Nat), .int .i64 ((fr : Int) + (TL : Nat)), .int .i64 (xe : Nat), .int .i64 R, .bool false] 53)
              rw [hs7] at hnew
              have hxa := (Ext.refl W7).alloc (.cells #[.int .i64 (fr : Nat), .int .i64 ((fr : Int) + (TL : Nat)), .int .i64 (xe : Nat), .int .i64 R, .bool false] 53)
              have ho1 := ownsRow_ext o7 hxa
              refine wpList_append_own_at _ rfl (.tmp 97) (.tmp 99) 49 rfl Y 53 i0 (.agg #[.int .i64 0, .int .i64 0, .int .i64 0, .int .i64 0, .bool false]) 5 40 Tryz.underlying49 hi0 hz0 hz1 hz3 rfl (by decide) (.slice po i co) i _ rfl ho1 ⟨W5.heap.size, 0, none⟩ 1 1 [.int .i64 (fr : Nat), .int .i64 ((fr : Int) + (TL : Nat)), .int .i64 (xe : Nat), .int .i64 R, .bool false] rfl rfl (World.news_of_block hnew) (by intro u hu; simp at hu; rcases hu with rfl | rfl | rfl | rfl | rfl <;> rfl) (by have := HEL.out; unfold maxLen; omega) (by have := HEL.out; omega) (by rw [← HY.out]; exact (x7.trans hxa).sz) ?_
              intro v' w9 g1 g2 _ g4
              obtain ⟨p10, c10, rfl⟩ := own_slice g1
              have hX9 := x7.trans hxa
              have HX10 := Lib.hid (show Ext w3 w9 from Below.grown hX9 g2 hX9.sz (fun k e => by have := (ho1.lt k e).1; rw [HY.out]; exact this))
              have HO10 := Lib.hid g1
              have b9 := (g2.block rb (blk_lt (hxa.blk b7)) (fun e => HNE.out e.symm)).trans (hxa.blk b7)
              have r9 : w9.cell? ⟨rb, 2, none⟩ = some (.int .i64 (xe : Nat)) := (cell_blk b9 2).trans rfl
              clear x7 b7 o7 hs7 hnew hxa ho1 g1 g2 g4 hX9 b9
              go_wp2_with fail
              have hTK := HTK.out
              refine ⟨⟨i + 1, true, xe, by simp, by omega, rfl, rfl, Lib.hid (by rw [hTK, stE_app, HGP.out]), Lib.hid (by rw [hTK, stB_app, HLB.out]), Lib.hid ?_, HX10⟩, by simp only [intOf]; omega⟩
              rw [hTK, rowS_app, HSE.out, HSB.out, HRV.out, rwW_app]
              have e5 : rwW [⟨fr, fr + TL, xe, R, false⟩] = [.int .i64 (fr : Nat), .int .i64 ((fr : Int) + (TL : Nat)), .int .i64 (xe : Nat), .int .i64 R, .bool false] := by simp [rwW]
              rw [e5]
              exact HO10.out
          · have hq : (((n : Nat) : Int) == ((L.length : Nat) : Int) - 1) = false := beq_eq_false_iff_ne.2 (by omega)
            have HLB := Lib.hid (show lastP L n = false by unfold lastP; rw [HGP.out]; simp [hl])
            clear hl
            by_cases hh : 0 < xh
            · have hhI : (0 : Int) < (xh : Nat) := by omega
              have HXH := Lib.hid hh
              clear hh
              go_wp2_with fail
              refine (HTR.out TX w8 (HX3.out.trans HXT.out) (by omega)).mono ?_
              rintro e W5 ⟨rfl, hx5⟩
              have HRV := Lib.hid (show rwOf s L F R fr false n = ⟨fr, fr + trailL okT TX.size TX.data.toList, xe, R, true⟩ by
                unfold rwOf
                rw [HGP.out, HTX.out, HLB.out]
                simp [HXH.out])
              have htl := trailL_le okT TX.size TX.data.toList
              rw [len_eq] at htl
              generalize trailL okT TX.size TX.data.toList = TL at htl HRV ⊢
              have htlI : ((fr : Nat) : Int) + (TL : Nat) ≤ 1000 := by omega
              have hb5 := hx5.blk HBT.out
              have hX5 := HXT.out.trans hx5
              have ho5 := ownsRow_ext HOT.out hx5
              obtain ⟨x6, b6, o6⟩ := rb_step hX5 hb5 ho5 HNE.out HRB.out 1 (.int .i64 ((fr : Int) + (TL : Nat)))
              obtain ⟨x7, b7, o7⟩ := rb_step x6 b6 o6 HNE.out HRB.out 4 (.bool true)
              have f5 := frz_blk hb5 1
              have f6 := frz_blk b6 4
              have t5 := (cell_blk hb5 1).trans rfl
              have t6 : (W5.setCell ⟨rb, 1, none⟩ (.int .i64 ((fr : Int) + (TL : Nat)))).cell? ⟨rb, 4, none⟩ = some (.bool false) := (cell_blk b6 4).trans rfl
              have g6 : (W5.setCell ⟨rb, 1, none⟩ (.int .i64 ((fr : Int) + (TL : Nat)))).cell? ⟨gl, n * 5 + 2, none⟩ = some (.int .i64 (xh : Nat)) := x6.cell HC2.out
              have r0 : ((W5.setCell ⟨rb, 1, none⟩ (.int .i64 ((fr : Int) + (TL : Nat)))).setCell ⟨rb, 4, none⟩ (.bool true)).cell? ⟨rb, 0, none⟩ = some (.int .i64 (fr : Nat)) := (cell_blk b7 0).trans rfl
              have r1 : ((W5.setCell ⟨rb, 1, none⟩ (.int .i64 ((fr : Int) + (TL : Nat)))).setCell ⟨rb, 4, none⟩ (.bool true)).cell? ⟨rb, 1, none⟩ = some (.int .i64 ((fr : Int) + (TL : Nat))) := (cell_blk b7 1).trans rfl
              have r2 : ((W5.setCell ⟨rb, 1, none⟩ (.int .i64 ((fr : Int) + (TL : Nat)))).setCell ⟨rb, 4, none⟩ (.bool true)).cell? ⟨rb, 2, none⟩ = some (.int .i64 (xe : Nat)) := (cell_blk b7 2).trans rfl
              have r3 : ((W5.setCell ⟨rb, 1, none⟩ (.int .i64 ((fr : Int) + (TL : Nat)))).setCell ⟨rb, 4, none⟩ (.bool true)).cell? ⟨rb, 3, none⟩ = some (.int .i64 R) := (cell_blk b7 3).trans rfl
              have r4 : ((W5.setCell ⟨rb, 1, none⟩ (.int .i64 ((fr : Int) + (TL : Nat)))).setCell ⟨rb, 4, none⟩ (.bool true)).cell? ⟨rb, 4, none⟩ = some (.bool true) := (cell_blk b7 4).trans rfl
              have H7 := Lib.hid (And.intro x7 (And.intro b7 o7))
              clear hx5 hb5 hX5 ho5 x6 b6 o6 x7 b7 o7
              go_wp2_with (at_builtin; refine Hid.out ?_)
              obtain ⟨x7, b7, o7⟩ := H7.out
              simp only [List.setIfInBounds_toArray, List.set_cons_succ, List.set_cons_zero] at b7
              have hs7 : ((W5.setCell ⟨rb, 1, none⟩ (.int .i64 ((fr : Int) + (TL : Nat)))).setCell ⟨rb, 4, none⟩ (.bool true)).heap.size = W5.heap.size := by simp
              clear H7 r0 r1 r2 r3 r4 g6 f5 f6 t5 t6
              generalize (W5.setCell ⟨rb, 1, none⟩ (.int .i64 ((fr : Int) + (TL : Nat)))).setCell ⟨rb, 4, none⟩ (.bool true) = W7 at x7 b7 o7 hs7 ⊢
              obtain ⟨i0, hi0, hz0, hz1, hz3⟩ := info_parts Tryz.infoRw
              have hnew := World.alloc_heap_new W7 (.cells #[.int .i64 (fr : Nat), .int .i64 ((fr : Int) + (TL : Nat)), .int .i64 (xe : Nat), .int .i64 R, .bool true] 53)
              rw [hs7] at hnew
              have hxa := (Ext.refl W7).alloc (.cells #[.int .i64 (fr : Nat), .int .i64 ((fr : Int) + (TL : Nat)), .int .i64 (xe : Nat), .int .i64 R, .bool true] 53)
              have ho1 := ownsRow_ext o7 hxa
              refine wpList_append_own_at _ rfl (.tmp 97) (.tmp 99) 49 rfl Y 53 i0 (.agg #[.int .i64 0, .int .i64 0, .int .i64 0, .int .i64 0, .bool false]) 5 40 Tryz.underlying49 hi0 hz0 hz1 hz3 rfl (by decide) (.slice po i co) i _ rfl ho1 ⟨W5.heap.size, 0, none⟩ 1 1 [.int .i64 (fr : Nat), .int .i64 ((fr : Int) + (TL : Nat)), .int .i64 (xe : Nat), .int .i64 R, .bool true] rfl rfl (World.news_of_block hnew) (by intro u hu; simp at hu; rcases hu with rfl | rfl | rfl | rfl | rfl <;> rfl) (by have := HEL.out; unfold maxLen; omega) (by have := HEL.out; omega) (by rw [← HY.out]; exact (x7.trans hxa).sz) ?_
              intro v' w9 g1 g2 _ g4
              obtain ⟨p10, c10, rfl⟩ := own_slice g1
              have hX9 := x7.trans hxa
              have HX10 := Lib.hid (show Ext w3 w9 from Below.grown hX9 g2 hX9.sz (fun k e => by have := (ho1.lt k e).1; rw [HY.out]; exact this))
              have HO10 := Lib.hid g1
              have b9 := (g2.block rb (blk_lt (hxa.blk b7)) (fun e => HNE.out e.symm)).trans (hxa.blk b7)
              have r9 : w9.cell? ⟨rb, 2, none⟩ = some (.int .i64 (xe : Nat)) := (cell_blk b9 2).trans rfl
              clear x7 b7 o7 hs7 hnew hxa ho1 g1 g2 g4 hX9 b9
              go_wp2_with fail
              have hTK := HTK.out
              refine ⟨⟨i + 1, false, xe, by simp, by omega, rfl, rfl, Lib.hid (by rw [hTK, stE_app, HGP.out]), Lib.hid (by rw [hTK, stB_app, HLB.out]), Lib.hid ?_, HX10⟩, by simp only [intOf]; omega⟩
              rw [hTK, rowS_app, HSE.out, HSB.out, HRV.out, rwW_app]
              have e5 : rwW [⟨fr, fr + TL, xe, R, true⟩] = [.int .i64 (fr : Nat), .int .i64 ((fr : Int) + (TL : Nat)), .int .i64 (xe : Nat), .int .i64 R, .bool true] := by simp [rwW]
              rw [e5]
              exact HO10.out
            · have hhI : ¬ (0 : Int) < (xh : Nat) := by omega
              have HXH := Lib.hid hh
              clear hh
              go_wp2_with fail
              refine (HTR.out TX w8 (HX3.out.trans HXT.out) (by omega)).mono ?_
              rintro e W5 ⟨rfl, hx5⟩
              have HRV := Lib.hid (show rwOf s L F R fr false n = ⟨fr, fr + trailL okT TX.size TX.data.toList, xe, R, false⟩ by
                unfold rwOf
                rw [HGP.out, HTX.out, HLB.out]
                simp [HXH.out])
              have htl := trailL_le okT TX.size TX.data.toList
              rw [len_eq] at htl
              generalize trailL okT TX.size TX.data.toList = TL at htl HRV ⊢
              have htlI : ((fr : Nat) : Int) + (TL : Nat) ≤ 1000 := by omega
              have hb5 := hx5.blk HBT.out
              have hX5 := HXT.out.trans hx5
              have ho5 := ownsRow_ext HOT.out hx5
              obtain ⟨x6, b6, o6⟩ := rb_step hX5 hb5 ho5 HNE.out HRB.out 1 (.int .i64 ((fr : Int) + (TL : Nat)))
              obtain ⟨x7, b7, o7⟩ := rb_step x6 b6 o6 HNE.out HRB.out 4 (.bool false)
              have f5 := frz_blk hb5 1
              have f6 := frz_blk b6 4
              have t5 := (cell_blk hb5 1).trans rfl
              have t6 : (W5.setCell ⟨rb, 1, none⟩ (.int .i64 ((fr : Int) + (TL : Nat)))).cell? ⟨rb, 4, none⟩ = some (.bool false) := (cell_blk b6 4).trans rfl
              have g6 : (W5.setCell ⟨rb, 1, none⟩ (.int .i64 ((fr : Int) + (TL : Nat)))).cell? ⟨gl, n * 5 + 2, none⟩ = some (.int .i64 (xh : Nat)) := x6.cell HC2.out
              have r0 : ((W5.setCell ⟨rb, 1, none⟩ (.int .i64 ((fr : Int) + (TL : Nat)))).setCell ⟨rb, 4, none⟩ (.bool false)).cell? ⟨rb, 0, none⟩ = some (.int .i64 (fr : Nat)) := (cell_blk b7 0).trans rfl
              have r1 : ((W5.setCell ⟨rb, 1, none⟩ (.int .i64 ((fr : Int) + (TL : Nat)))).setCell ⟨rb, 4, none⟩ (.bool false)).cell? ⟨rb, 1, none⟩ = some (.int .i64 ((fr : Int) + (TL : Nat))) := (cell_blk b7 1).trans rfl
              have r2 : ((W5.setCell ⟨rb, 1, none⟩ (.int .i64 ((fr : Int) + (TL : Nat)))).setCell ⟨rb, 4, none⟩ (.bool false)).cell? ⟨rb, 2, none⟩ = some (.int .i64 (xe : Nat)) := (cell_blk b7 2).trans rfl
              have r3 : ((W5.setCell ⟨rb, 1, none⟩ (.int .i64 ((fr : Int) + (TL : Nat)))).setCell ⟨rb, 4, none⟩ (.bool false)).cell? ⟨rb, 3, none⟩ = some (.int .i64 R) := (cell_blk b7 3).trans rfl
              have r4 : ((W5.setCell ⟨rb, 1, none⟩ (.int .i64 ((fr : Int) + (TL : Nat)))).setCell ⟨rb, 4, none⟩ (.bool false)).cell? ⟨rb, 4, none⟩ = some (.bool false) := (cell_blk b7 4).trans rfl
              have H7 := Lib.hid (And.intro x7 (And.intro b7 o7))
              clear hx5 hb5 hX5 ho5 x6 b6 o6 x7 b7 o7
              go_wp2_with (at_builtin; refine Hid.out ?_)
              obtain ⟨x7, b7, o7⟩ := H7.out
              simp only [List.setIfInBounds_toArray, List.set_cons_succ, List.set_cons_zero] at b7
              have hs7 : ((W5.setCell ⟨rb, 1, none⟩ (.int .i64 ((fr : Int) + (TL : Nat)))).setCell ⟨rb, 4, none⟩ (.bool false)).heap.size = W5.heap.size := by simp
              clear H7 r0 r1 r2 r3 r4 g6 f5 f6 t5 t6
              generalize (W5.setCell ⟨rb, 1, none⟩ (.int .i64 ((fr : Int) + (TL : Nat)))).setCell ⟨rb, 4, none⟩ (.bool false) = W7 at x7 b7 o7 hs7 ⊢
              obtain ⟨i0, hi0, hz0, hz1, hz3⟩ := info_parts Tryz.infoRw
              have hnew := World.alloc_heap_new W7 (.cells #[.int .i64 (fr : Nat), .int .i64 ((fr : Int) + (TL : Nat)), .int .i64 (xe : Nat), .int .i64 R, .bool false] 53)
              rw [hs7] at hnew
              have hxa := (Ext.refl W7).alloc (.cells #[.int .i64 (fr : Nat), .int .i64 ((fr : Int) + (TL : Nat)), .int .i64 (xe : Nat), .int .i64 R, .bool false] 53)
              have ho1 := ownsRow_ext o7 hxa
              refine wpList_append_own_at _ rfl (.tmp 97) (.tmp 99) 49 rfl Y 53 i0 (.agg #[.int .i64 0, .int .i64 0, .int .i64 0, .int .i64 0, .bool false]) 5 40 Tryz.underlying49 hi0 hz0 hz1 hz3 rfl (by decide) (.slice po i co) i _ rfl ho1 ⟨W5.heap.size, 0, none⟩ 1 1 [.int .i64 (fr : Nat), .int .i64 ((fr : Int) + (TL : Nat)), .int .i64 (xe : Nat), .int .i64 R, .bool false] rfl rfl (World.news_of_block hnew) (by intro u hu; simp at hu; rcases hu with rfl | rfl | rfl | rfl | rfl <;> rfl) (by have := HEL.out; unfold maxLen; omega) (by have := HEL.out; omega) (by rw [← HY.out]; exact (x7.trans hxa).sz) ?_
              intro v' w9 g1 g2 _ g4
              obtain ⟨p10, c10, rfl⟩ := own_slice g1
              have hX9 := x7.trans hxa
              have HX10 := Lib.hid (show Ext w3 w9 from Below.grown hX9 g2 hX9.sz (fun k e => by have := (ho1.lt k e).1; rw [HY.out]; exact this))
              have HO10 := Lib.hid g1
              have b9 := (g2.block rb (blk_lt (hxa.blk b7)) (fun e => HNE.out e.symm)).trans (hxa.blk b7)
              have r9 : w9.cell? ⟨rb, 2, none⟩ = some (.int .i64 (xe : Nat)) := (cell_blk b9 2).trans rfl
              clear x7 b7 o7 hs7 hnew hxa ho1 g1 g2 g4 hX9 b9
              go_wp2_with fail
              have hTK := HTK.out
              refine ⟨⟨i + 1, false, xe, by simp, by omega, rfl, rfl, Lib.hid (by rw [hTK, stE_app, HGP.out]), Lib.hid (by rw [hTK, stB_app, HLB.out]), Lib.hid ?_, HX10⟩, by simp only [intOf]; omega⟩
              rw [hTK, rowS_app, HSE.out, HSB.out, HRV.out, rwW_app]
              have e5 : rwW [⟨fr, fr + TL, xe, R, false⟩] = [.int .i64 (fr : Nat), .int .i64 ((fr : Int) + (TL : Nat)), .int .i64 (xe : Nat), .int .i64 R, .bool false] := by simp [rwW]
              rw [e5]
              exact HO10.out
        · have HLB := Lib.hid (show lastP L n = true by unfold lastP; rw [HGP.out]; simp)
          by_cases hh : 0 < xh
          · have hhI : (0 : Int) < (xh : Nat) := by omega
            have HXH := Lib.hid hh
            clear hh
            go_wp2_with fail
            refine (HTR.out TX w8 (HX3.out.trans HXT.out) (by omega)).mono ?_
            rintro e W5 ⟨rfl, hx5⟩
            have HRV := Lib.hid (show rwOf s L F R fr false n = ⟨fr, fr + trailL okT TX.size TX.data.toList, xe, R, false⟩ by
              unfold rwOf
              rw [HGP.out, HTX.out, HLB.out]
              simp [HXH.out])
            have htl := trailL_le okT TX.size TX.data.toList
            rw [len_eq] at htl
            generalize trailL okT TX.size TX.data.toList = TL at htl HRV ⊢
            have htlI : ((fr : Nat) : Int) + (TL : Nat) ≤ 1000 := by omega
            have hb5 := hx5.blk HBT.out
            have hX5 := HXT.out.trans hx5
            have ho5 := ownsRow_ext HOT.out hx5
            obtain ⟨x6, b6, o6⟩ := rb_step hX5 hb5 ho5 HNE.out HRB.out 1 (.int .i64 ((fr : Int) + (TL : Nat)))
            obtain ⟨x7, b7, o7⟩ := rb_step x6 b6 o6 HNE.out HRB.out 4 (.bool false)
            have f5 := frz_blk hb5 1
            have f6 := frz_blk b6 4
            have t5 := (cell_blk hb5 1).trans rfl
            have t6 : (W5.setCell ⟨rb, 1, none⟩ (.int .i64 ((fr : Int) + (TL : Nat)))).cell? ⟨rb, 4, none⟩ = some (.bool false) := (cell_blk b6 4).trans rfl
            have g6 : (W5.setCell ⟨rb, 1, none⟩ (.int .i64 ((fr : Int) + (TL : Nat)))).cell? ⟨gl, n * 5 + 2, none⟩ = some (.int .i64 (xh : Nat)) := x6.cell HC2.out
            have r0 : ((W5.setCell ⟨rb, 1, none⟩ (.int .i64 ((fr : Int) + (TL : Nat)))).setCell ⟨rb, 4, none⟩ (.bool false)).cell? ⟨rb, 0, none⟩ = some (.int .i64 (fr : Nat)) := (cell_blk b7 0).trans rfl
            have r1 : ((W5.setCell ⟨rb, 1, none⟩ (.int .i64 ((fr : Int) + (TL : Nat)))).setCell ⟨rb, 4, none⟩ (.bool false)).cell? ⟨rb, 1, none⟩ = some (.int .i64 ((fr : Int) + (TL : Nat))) := (cell_blk b7 1).trans rfl
            have r2 : ((W5.setCell ⟨rb, 1, none⟩ (.int .i64 ((fr : Int) + (TL : Nat)))).setCell ⟨rb, 4, none⟩ (.bool false)).cell? ⟨rb, 2, none⟩ = some (.int .i64 (xe : Nat)) := (cell_blk b7 2).trans rfl
            have r3 : ((W5.setCell ⟨rb, 1, none⟩ (.int .i64 ((fr : Int) + (TL : Nat)))).setCell ⟨rb, 4, none⟩ (.bool false)).cell? ⟨rb, 3, none⟩ = some (.int .i64 R) := (cell_blk b7 3).trans rfl
            have r4 : ((W5.setCell ⟨rb, 1, none⟩ (.int .i64 ((fr : Int) + (TL : Nat)))).setCell ⟨rb, 4, none⟩ (.bool false)).cell? ⟨rb, 4, none⟩ = some (.bool false) := (cell_blk b7 4).trans rfl
            have H7 := Lib.hid (And.intro x7 (And.intro b7 o7))
            clear hx5 hb5 hX5 ho5 x6 b6 o6 x7 b7 o7
            go_wp2_with (at_builtin; refine Hid.out ?_)
            obtain ⟨x7, b7, o7⟩ := H7.out
            simp only [List.setIfInBounds_toArray, List.set_cons_succ, List.set_cons_zero] at b7
            have hs7 : ((W5.setCell ⟨rb, 1, none⟩ (.int .i64 ((fr : Int) + (TL : Nat)))).setCell ⟨rb, 4, none⟩ (.bool false)).heap.size = W5.heap.size := by simp
            clear H7 r0 r1 r2 r3 r4 g6 f5 f6 t5 t6
            generalize (W5.setCell ⟨rb, 1, none⟩ (.int .i64 ((fr : Int) + (TL : Nat)))).setCell ⟨rb, 4, none⟩ (.bool false) = W7 at x7 b7 o7 hs7 ⊢
            obtain ⟨i0, hi0, hz0, hz1, hz3⟩ := info_parts Tryz.infoRw
            have hnew := World.alloc_heap_new W7 (.cells #[.int .i64 (fr : Nat), .int .i64 ((fr : Int) + (TL : Nat)), .int .i64 (xe : Nat), .int .i64 R, .bool false] 53)
            rw [hs7] at hnew
            have hxa := (Ext.refl W7).alloc (.cells #[.int .i64 (fr : Nat), .int .i64 ((fr : Int) + (TL : Nat)), .int .i64 (xe : Nat), .int .i64 R, .bool false] 53)
            have ho1 := ownsRow_ext o7 hxa
            refine wpList_append_own_at _ rfl (.tmp 97) (.tmp 99) 49 rfl Y 53 i0 (.agg #[.int .i64 0, .int .i64 0, .int .i64 0, .int .i64 0, .bool false]) 5 40 Tryz.underlying49 hi0 hz0 hz1 hz3 rfl (by decide) (.slice po i co) i _ rfl ho1 ⟨W5.heap.size, 0, none⟩ 1 1 [.int .i64 (fr : Nat), .int .i64 ((fr : Int) + (TL : Nat)), .int .i64 (xe : Nat), .int .i64 R, .bool false] rfl rfl (World.news_of_block hnew) (by intro u hu; simp at hu; rcases hu with rfl | rfl | rfl | rfl | rfl <;> rfl) (by have := HEL.out; unfold maxLen; omega) (by have := HEL.out; omega) (by rw [← HY.out]; exact (x7.trans hxa).sz) ?_
            intro v' w9 g1 g2 _ g4
            obtain ⟨p10, c10, rfl⟩ := own_slice g1
            have hX9 := x7.trans hxa
            have HX10 := Lib.hid (show Ext w3 w9 from Below.grown hX9 g2 hX9.sz (fun k e => by have := (ho1.lt k e).1; rw [HY.out]; exact this))
            have HO10 := Lib.hid g1
            have b9 := (g2.block rb (blk_lt (hxa.blk b7)) (fun e => HNE.out e.symm)).trans (hxa.blk b7)
            have r9 : w9.cell? ⟨rb, 2, none⟩ = some (.int .i64 (xe : Nat)) := (cell_blk b9 2).trans rfl
            clear x7 b7 o7 hs7 hnew hxa ho1 g1 g2 g4 hX9 b9
            go_wp2_with fail
            have hTK := HTK.out
            refine ⟨⟨i + 1, true, xe, by simp, by omega, rfl, rfl, Lib.hid (by rw [hTK, stE_app, HGP.out]), Lib.hid (by rw [hTK, stB_app, HLB.out]), Lib.hid ?_, HX10⟩, by simp only [intOf]; omega⟩
            rw [hTK, rowS_app, HSE.out, HSB.out, HRV.out, rwW_app]
            have e5 : rwW [⟨fr, fr + TL, xe, R, false⟩] = [.int .i64 (fr : Nat), .int .i64 ((fr : Int) + (TL : Nat)), .int .i64 (xe : Nat), .int .i64 R, .bool false] := by simp [rwW]
            rw [e5]
            exact HO10.out
          · have hhI : ¬ (0 : Int) < (xh : Nat) := by omega
            have HXH := Lib.hid hh
            clear hh
            go_wp2_with fail
            refine (HTR.out TX w8 (HX3.out.trans HXT.out) (by omega)).mono ?_
            rintro e W5 ⟨rfl, hx5⟩
            have HRV := Lib.hid (show rwOf s L F R fr false n = ⟨fr, fr + trailL okT TX.size TX.data.toList, xe, R, false⟩ by
              unfold rwOf
              rw [HGP.out, HTX.out, HLB.out]
              simp [HXH.out])
            have htl := trailL_le okT TX.size TX.data.toList
            rw [len_eq] at htl
            generalize trailL okT TX.size TX.data.toList = TL at htl HRV ⊢
            have htlI : ((fr : Nat) : Int) + (TL : Nat) ≤ 1000 := by omega
            have hb5 := hx5.blk HBT.out
            have hX5 := HXT.out.trans hx5
            have ho5 := ownsRow_ext HOT.out hx5
            obtain ⟨x6, b6, o6⟩ := rb_step hX5 hb5 ho5 HNE.out HRB.out 1 (.int .i64 ((fr : Int) + (TL : Nat)))
            obtain ⟨x7, b7, o7⟩ := rb_step x6 b6 o6 HNE.out HRB.out 4 (.bool false)
            have f5 := frz_blk hb5 1
            have f6 := frz_blk b6 4
            have t5 := (cell_blk hb5 1).trans rfl
            have t6 : (W5.setCell ⟨rb, 1, none⟩ (.int .i64 ((fr : Int) + (TL : Nat)))).cell? ⟨rb, 4, none⟩ = some (.bool false) := (cell_blk b6 4).trans rfl
            have g6 : (W5.setCell ⟨rb, 1, none⟩ (.int .i64 ((fr : Int) + (TL : Nat)))).cell? ⟨gl, n * 5 + 2, none⟩ = some (.int .i64 (xh : Nat)) := x6.cell HC2.out
            have r0 : ((W5.setCell ⟨rb, 1, none⟩ (.int .i64 ((fr : Int) + (TL : Nat)))).setCell ⟨rb, 4, none⟩ (.bool false)).cell? ⟨rb, 0, none⟩ = some (.int .i64 (fr : Nat)) := (cell_blk b7 0).trans rfl
            have r1 : ((W5.setCell ⟨rb, 1, none⟩ (.int .i64 ((fr : Int) + (TL : Nat)))).setCell ⟨rb, 4, none⟩ (.bool false)).cell? ⟨rb, 1, none⟩ = some (.int .i64 ((fr : Int) + (TL : Nat))) := (cell_blk b7 1).trans rfl
            have r2 : ((W5.setCell ⟨rb, 1, none⟩ (.int .i64 ((fr : Int) + (TL : Nat)))).setCell ⟨rb, 4, none⟩ (.bool false)).cell? ⟨rb, 2, none⟩ = some (.int .i64 (xe : Nat)) := (cell_blk b7 2).trans rfl
            have r3 : ((W5.setCell ⟨rb, 1, none⟩ (.int .i64 ((fr : Int) + (TL : Nat)))).setCell ⟨rb, 4, none⟩ (.bool false)).cell? ⟨rb, 3, none⟩ = some (.int .i64 R) := (cell_blk b7 3).trans rfl
            have r4 : ((W5.setCell ⟨rb, 1, none⟩ (.int .i64 ((fr : Int) + (TL : Nat)))).setCell ⟨rb, 4, none⟩ (.bool false)).cell? ⟨rb, 4, none⟩ = some (.bool false) := (cell_blk b7 4).trans rfl
            have H7 := Lib.hid (And.intro x7 (And.intro b7 o7))
            clear hx5 hb5 hX5 ho5 x6 b6 o6 x7 b7 o7
            go_wp2_with (at_builtin; refine Hid.out ?_)
            obtain ⟨x7, b7, o7⟩ := H7.out
            simp only [List.setIfInBounds_toArray, List.set_cons_succ, List.set_cons_zero] at b7
            have hs7 : ((W5.setCell ⟨rb, 1, none⟩ (.int .i64 ((fr : Int) + (TL : Nat)))).setCell ⟨rb, 4, none⟩ (.bool false)).heap.size = W5.heap.size := by simp
            clear H7 r0 r1 r2 r3 r4 g6 f5 f6 t5 t6
            generalize (W5.setCell ⟨rb, 1, none⟩ (.int .i64 ((fr : Int) + (TL : Nat)))).setCell ⟨rb, 4, none⟩ (.bool false) = W7 at x7 b7 o7 hs7 ⊢
            obtain ⟨i0, hi0, hz0, hz1, hz3⟩ := info_parts Tryz.infoRw
            have hnew := World.alloc_heap_new W7 (.cells #[.int .i64 (fr : Nat), .int .i64 ((fr : Int) + (TL : Nat)), .int .i64 (xe : Nat), .int .i64 R, .bool false] 53)
            rw [hs7] at hnew
            have hxa := (Ext.refl W7).alloc (.cells #[.int .i64 (fr : Nat), .int .i64 ((fr : Int) + (TL : Nat)), .int .i64 (xe : Nat), .int .i64 R, .bool false] 53)
            have ho1 := ownsRow_ext o7 hxa
            refine wpList_append_own_at _ rfl (.tmp 97) (.tmp 99) 49 rfl Y 53 i0 (.agg #[.int .i64 0, .int .i64 0, .int .i64 0, .int .i64 0, .bool false]) 5 40 Tryz.underlying49 hi0 hz0 hz1 hz3 rfl (by decide) (.slice po i co) i _ rfl ho1 ⟨W5.heap.size, 0, none⟩ 1 1 [.int .i64 (fr : Nat), .int .i64 ((fr : Int) + (TL : Nat)), .int .i64 (xe : Nat), .int .i64 R, .bool false] rfl rfl (World.news_of_block hnew) (by intro u hu; simp at hu; rcases hu with rfl | rfl | rfl | rfl | rfl <;> rfl) (by have := HEL.out; unfold maxLen; omega) (by have := HEL.out; omega) (by rw [← HY.out]; exact (x7.trans hxa).sz) ?_
            intro v' w9 g1 g2 _ g4
            obtain ⟨p10, c10, rfl⟩ := own_slice g1
            have hX9 := x7.trans hxa
            have HX10 := Lib.hid (show Ext w3 w9 from Below.grown hX9 g2 hX9.sz (fun k e => by have := (ho1.lt k e).1; rw [HY.out]; exact this))
            have HO10 := Lib.hid g1
            have b9 := (g2.block rb (blk_lt (hxa.blk b7)) (fun e => HNE.out e.symm)).trans (hxa.blk b7)
            have r9 : w9.cell? ⟨rb, 2, none⟩ = some (.int .i64 (xe : Nat)) := (cell_blk b9 2).trans rfl
            clear x7 b7 o7 hs7 hnew hxa ho1 g1 g2 g4 hX9 b9
            go_wp2_with fail
            have hTK := HTK.out
            refine ⟨⟨i + 1, true, xe, by simp, by omega, rfl, rfl, Lib.hid (by rw [hTK, stE_app, HGP.out]), Lib.hid (by rw [hTK, stB_app, HLB.out]), Lib.hid ?_, HX10⟩, by simp only [intOf]; omega⟩
            rw [hTK, rowS_app, HSE.out, HSB.out, HRV.out, rwW_app]
            have e5 : rwW [⟨fr, fr + TL, xe, R, false⟩] = [.int .i64 (fr : Nat), .int .i64 ((fr : Int) + (TL : Nat)), .int .i64 (xe : Nat), .int .i64 R, .bool false] := by simp [rwW]
            rw [e5]
            exact HO10.out
      · have f3 := frz_blk HB8.out 3
        have t3 := (cell_blk HB8.out 3).trans rfl
        have o1 : w8.cell? ⟨A + 1, 1, none⟩ = some (.int .i64 F) := (cell_blk (HX8.out.blk HB1.out) 1).trans rfl
        obtain ⟨y, yb, yo⟩ := rb_step HX8.out HB8.out HO8.out HNE.out HRB.out 3 (.int .i64 F)
        simp only [List.setIfInBounds_toArray, List.set_cons_succ, List.set_cons_zero] at yb
        have HXT := Lib.hid y
        have HBT := Lib.hid yb
        have HOT := Lib.hid yo
        have u3 : (w8.setCell ⟨rb, 3, none⟩ (.int .i64 F)).cell? ⟨gl, n * 5 + 3, none⟩ = some (.bool xm) := y.cell HC3.out
        have u2 : (w8.setCell ⟨rb, 3, none⟩ (.int .i64 F)).cell? ⟨rb, 2, none⟩ = some (.int .i64 (xe : Nat)) := (cell_blk yb 2).trans rfl
        clear y yb yo
        cases xm
        · by_cases hl : n + 1 = L.length
          · have hq : (((n : Nat) : Int) == ((L.length : Nat) : Int) - 1) = true := beq_iff_eq.2 (by omega)
            have HLB := Lib.hid (show lastP L n = true by unfold lastP; rw [HGP.out]; simp [hl])
            clear hl
            by_cases hh : 0 < xh
            · have hhI : (0 : Int) < (xh : Nat) := by omega
              have HXH := Lib.hid hh
              clear hh
              go_wp2_with fail
              refine (HTR.out TX (w8.setCell ⟨rb, 3, none⟩ (.int .i64 F)) (HX3.out.trans HXT.out) (by omega)).mono ?_
              rintro e W5 ⟨rfl, hx5⟩
              have HRV := Lib.hid (show rwOf s L F R fr true n = ⟨fr, fr + trailL okT TX.size TX.data.toList, xe, F, false⟩ by
                unfold rwOf
                rw [HGP.out, HTX.out, HLB.out]
                simp [HXH.out])
              have htl := trailL_le okT TX.size TX.data.toList
              rw [len_eq] at htl
              generalize trailL okT TX.size TX.data.toList = TL at htl HRV ⊢
              have htlI : ((fr : Nat) : Int) + (TL : Nat) ≤ 1000 := by omega
              have hb5 := hx5.blk HBT.out
              have hX5 := HXT.out.trans hx5
              have ho5 := ownsRow_ext HOT.out hx5
              obtain ⟨x6, b6, o6⟩ := rb_step hX5 hb5 ho5 HNE.out HRB.out 1 (.int .i64 ((fr : Int) + (TL : Nat)))
              obtain ⟨x7, b7, o7⟩ := rb_step x6 b6 o6 HNE.out HRB.out 4 (.bool false)
              have f5 := frz_blk hb5 1
              have f6 := frz_blk b6 4
              have t5 := (cell_blk hb5 1).trans rfl
              have t6 : (W5.setCell ⟨rb, 1, none⟩ (.int .i64 ((fr : Int) + (TL : Nat)))).cell? ⟨rb, 4, none⟩ = some (.bool false) := (cell_blk b6 4).trans rfl
              have g6 : (W5.setCell ⟨rb, 1, none⟩ (.int .i64 ((fr : Int) + (TL : Nat)))).cell? ⟨gl, n * 5 + 2, none⟩ = some (.int .i64 (xh : Nat)) := x6.cell HC2.out
              have r0 : ((W5.setCell ⟨rb, 1, none⟩ (.int .i64 ((fr : Int) + (TL : Nat)))).setCell ⟨rb, 4, none⟩ (.bool false)).cell? ⟨rb, 0, none⟩ = some (.int .i64 (fr : Nat)) := (cell_blk b7 0).trans rfl
              have r1 : ((W5.setCell ⟨rb, 1, none⟩ (.int .i64 ((fr : Int) + (TL : Nat)))).setCell ⟨rb, 4, none⟩ (.bool false)).cell? ⟨rb, 1, none⟩ = some (.int .i64 ((fr : Int) + (TL : Nat))) := (cell_blk b7 1).trans rfl
              have r2 : ((W5.setCell ⟨rb, 1, none⟩ (.int .i64 ((fr : Int) + (TL : Nat)))).setCell ⟨rb, 4, none⟩ (.bool false)).cell? ⟨rb, 2, none⟩ = some (.int .i64 (xe : Nat)) := (cell_blk b7 2).trans rfl
              have r3 : ((W5.setCell ⟨rb, 1, none⟩ (.int .i64 ((fr : Int) + (TL : Nat)))).setCell ⟨rb, 4, none⟩ (.bool false)).cell? ⟨rb, 3, none⟩ = some (.int .i64 F) := (cell_blk b7 3).trans rfl
              have r4 : ((W5.setCell ⟨rb, 1, none⟩ (.int .i64 ((fr : Int) + (TL : Nat)))).setCell ⟨rb, 4, none⟩ (.bool false)).cell? ⟨rb, 4, none⟩ = some (.bool false) := (cell_blk b7 4).trans rfl
              have H7 := Lib.hid (And.intro x7 (And.intro b7 o7))
              clear hx5 hb5 hX5 ho5 x6 b6 o6 x7 b7 o7
              go_wp2_with (at_builtin; refine Hid.out ?_)
              obtain ⟨x7, b7, o7⟩ := H7.out
              simp only [List.setIfInBounds_toArray, List.set_cons_succ, List.set_cons_zero] at b7
              have hs7 : ((W5.setCell ⟨rb, 1, none⟩ (.int .i64 ((fr : Int) + (TL : Nat)))).setCell ⟨rb, 4, none⟩ (.bool false)).heap.size = W5.heap.size := by simp
              clear H7 r0 r1 r2 r3 r4 g6 f5 f6 t5 t6
              generalize (W5.setCell ⟨rb, 1, none⟩ (.int .i64 ((fr : Int) + (TL : Nat)))).setCell ⟨rb, 4, none⟩ (.bool false) = W7 at x7 b7 o7 hs7 ⊢
              obtain ⟨i0, hi0, hz0, hz1, hz3⟩ := info_parts Tryz.infoRw
              have hnew := World.alloc_heap_new W7 (.cells #[.int .i64 (fr : Nat), .int .i64 ((fr : Int) + (TL : Nat)), .int .i64 (xe : Nat), .int .i64 F, .bool false] 53)
              rw [hs7] at hnew
              have hxa := (Ext.refl W7).alloc (.cells #[.int .i64 (fr : Nat), .int .i64 ((fr : Int) + (TL : Nat)), .int .i64 (xe : Nat), .int .i64 F, .bool false] 53)
              have ho1 := ownsRow_ext o7 hxa
              refine wpList_append_own_at _ rfl (.tmp 97) (.tmp 99) 49 rfl Y 53 i0 (.agg #[.int .i64 0, .int .i64 0, .int .i64 0, .int .i64 0, .bool false]) 5 40 Tryz.underlying49 hi0 hz0 hz1 hz3 rfl (by decide) (.slice po i co) i _ rfl ho1 ⟨W5.heap.size, 0, none⟩ 1 1 [.int .i64 (fr : Nat), .int .i64 ((fr : Int) + (TL : Nat)), .int .i64 (xe : Nat), .int .i64 F, .bool false] rfl rfl (World.news_of_block hnew) (by intro u hu; simp at hu; rcases hu with rfl | rfl | rfl | rfl | rfl <;> rfl) (by have := HEL.out; unfold maxLen; omega) (by have := HEL.out; omega) (by rw [← HY.out]; exact (x7.trans hxa).sz) ?_
              intro v' w9 g1 g2 _ g4
              obtain ⟨p10, c10, rfl⟩ := own_slice g1
              have hX9 := x7.trans hxa
              have HX10 := Lib.hid (show Ext w3 w9 from Below.grown hX9 g2 hX9.sz (fun k e => by have := (ho1.lt k e).1; rw [HY.out]; exact this))
              have HO10 := Lib.hid g1
              have b9 := (g2.block rb (blk_lt (hxa.blk b7)) (fun e => HNE.out e.symm)).trans (hxa.blk b7)
              have r9 : w9.cell? ⟨rb, 2, none⟩ = some (.int .i64 (xe : Nat)) := (cell_blk b9 2).trans rfl
              clear x7 b7 o7 hs7 hnew hxa ho1 g1 g2 g4 hX9 b9
              go_wp2_with fail
              have hTK := HTK.out
              refine ⟨⟨i + 1, true, xe, by simp, by omega, rfl, rfl, Lib.hid (by rw [hTK, stE_app, HGP.out]), Lib.hid (by rw [hTK, stB_app, HLB.out]), Lib.hid ?_, HX10⟩, by simp only [intOf]; omega⟩
              rw [hTK, rowS_app, HSE.out, HSB.out, HRV.out, rwW_app]
              have e5 : rwW [⟨fr, fr + TL, xe, F, false⟩] = [.int .i64 (fr : Nat), .int .i64 ((fr : Int) + (TL : Nat)), .int .i64 (xe : Nat), .int .i64 F, .bool false] := by simp [rwW]
              rw [e5]
              exact HO10.out
            · have hhI : ¬ (0 : Int) < (xh : Nat) := by omega
              have HXH := Lib.hid hh
              clear hh
              go_wp2_with fail
              refine (HTR.out TX (w8.setCell ⟨rb, 3, none⟩ (.int .i64 F)) (HX3.out.trans HXT.out) (by omega)).mono ?_
              rintro e W5 ⟨rfl, hx5⟩
              have HRV := Lib.hid (show rwOf s L F R fr true n = ⟨fr, fr + trailL okT TX.size TX.data.toList, xe, F, false⟩ by
                unfold rwOf
                rw [HGP.out, HTX.out, HLB.out]
                simp [HXH.out])
              have htl := trailL_le okT TX.size TX.data.toList
              rw [len_eq] at htl
              generalize trailL okT TX.size TX.data.toList = TL at htl HRV ⊢
              have htlI : ((fr : Nat) : Int) + (TL : Nat) ≤ 1000 := by omega
              have hb5 := hx5.blk HBT.out
              have hX5 := HXT.out.trans hx5
              have ho5 := ownsRow_ext HOT.out hx5
              obtain ⟨x6, b6, o6⟩ := rb_step hX5 hb5 ho5 HNE.out HRB.out 1 (.int .i64 ((fr : Int) + (TL : Nat)))
              obtain ⟨x7, b7, o7⟩ := rb_step x6 b6 o6 HNE.out HRB.out 4 (.bool false)
              have f5 := frz_blk hb5 1
              have f6 := frz_blk b6 4
              have t5 := (cell_blk hb5 1).trans rfl
              have t6 : (W5.setCell ⟨rb, 1, none⟩ (.int .i64 ((fr : Int) + (TL : Nat)))).cell? ⟨rb, 4, none⟩ = some (.bool false) := (cell_blk b6 4).trans rfl
              have g6 : (W5.setCell ⟨rb, 1, none⟩ (.int .i64 ((fr : Int) + (TL : Nat)))).cell? ⟨gl, n * 5 + 2, none⟩ = some (.int .i64 (xh : Nat)) := x6.cell HC2.out
              have r0 : ((W5.setCell ⟨rb, 1, none⟩ (.int .i64 ((fr : Int) + (TL : Nat)))).setCell ⟨rb, 4, none⟩ (.bool false)).cell? ⟨rb, 0, none⟩ = some (.int .i64 (fr : Nat)) := (cell_blk b7 0).trans rfl
              have r1 : ((W5.setCell ⟨rb, 1, none⟩ (.int .i64 ((fr : Int) + (TL : Nat)))).setCell ⟨rb, 4, none⟩ (.bool false)).cell? ⟨rb, 1, none⟩ = some (.int .i64 ((fr : Int) + (TL : Nat))) := (cell_blk b7 1).trans rfl
              have r2 : ((W5.setCell ⟨rb, 1, none⟩ (.int .i64 ((fr : Int) + (TL : Nat)))).setCell ⟨rb, 4, none⟩ (.bool false)).cell? ⟨rb, 2, none⟩ = some (.int .i64 (xe : Nat)) := (cell_blk b7 2).trans rfl
              have r3 : ((W5.setCell ⟨rb, 1, none⟩ (.int .i64 ((fr : Int) + (TL : Nat)))).setCell ⟨rb, 4, none⟩ (.bool false)).cell? ⟨rb, 3, none⟩ = some (.int .i64 F) := (cell_blk b7 3).trans rfl
              have r4 : ((W5.setCell ⟨rb, 1, none⟩ (.int .i64 ((fr : Int) + (TL : Nat)))).setCell ⟨rb, 4, none⟩ (.bool false)).cell? ⟨rb, 4, none⟩ = some (.bool false) := (cell_blk b7 4).trans rfl
              have H7 := Lib.hid (And.intro x7 (And.intro b7 o7))
              clear hx5 hb5 hX5 ho5 x6 b6 o6 x7 b7 o7
              go_wp2_with (at_builtin; refine Hid.out ?_)
              obtain ⟨x7, b7, o7⟩ := H7.out
              simp only [List.setIfInBounds_toArray, List.set_cons_succ, List.set_cons_zero] at b7
              have hs7 : ((W5.setCell ⟨rb, 1, none⟩ (.int .i64 ((fr : Int) + (TL : Nat)))).setCell ⟨rb, 4, none⟩ (.bool false)).heap.size = W5.heap.size := by simp
              clear H7 r0 r1 r2 r3 r4 g6 f5 f6 t5 t6
              generalize (W5.setCell ⟨rb, 1, none⟩ (.int .i64 ((fr : Int) + (TL : Nat)))).setCell ⟨rb, 4, none⟩ (.bool false) = W7 at x7 b7 o7 hs7 ⊢
              obtain ⟨i0, hi0, hz0, hz1, hz3⟩ := info_parts Tryz.infoRw
              have hnew := World.alloc_heap_new W7 (.cells #[.int .i64 (fr : Nat), .int .i64 ((fr : Int) + (TL : Nat)), .int .i64 (xe : Nat), .int .i64 F, .bool false] 53)
              rw [hs7] at hnew
              have hxa := (Ext.refl W7).alloc (.cells #[.int .i64 (fr : Nat), .int .i64 ((fr : Int) + (TL : Nat)), .int .i64 (xe : Nat), .int .i64 F, .bool false] 53)
              have ho1 := ownsRow_ext o7 hxa
              refine wpList_append_own_at _ rfl (.tmp 97) (.tmp 99) 49 rfl Y 53 i0 (.agg #[.int .i64 0, .int .i64 0, .int .i64 0, .int .i64 0, .bool false]) 5 40 Tryz.underlying49 hi0 hz0 hz1 hz3 rfl (by decide) (.slice po i co) i _ rfl ho1 ⟨W5.heap.size, 0, none⟩ 1 1 [.int .i64 (fr : Nat), .int .i64 ((fr : Int) + (TL : Nat)), .int .i64 (xe : Nat), .int .i64 F, .bool false] rfl rfl (World.news_of_block hnew) (by intro u hu; simp at hu; rcases hu with rfl | rfl | rfl | rfl | rfl <;> rfl) (by have := HEL.out; unfold maxLen; omega) (by have := HEL.out; omega) (by rw [← HY.out]; exact (x7.trans hxa).sz) ?_
              intro v' w9 g1 g2 _ g4
              obtain ⟨p10, c10, rfl⟩ := own_slice g1
              have hX9 := x7.trans hxa
              have HX10 := Lib.hid (show Ext w3 w9 from Below.grown hX9 g2 hX9.sz (fun k e => by have := (ho1.lt k e).1; rw [HY.out]; exact this))
              have HO10 := Lib.hid g1
              have b9 := (g2.block rb (blk_lt (hxa.blk b7)) (fun e => HNE.out e.symm)).trans (hxa.blk b7)
              have r9 : w9.cell? ⟨rb, 2, none⟩ = some (.int .i64 (xe : Nat)) := (cell_blk b9 2).trans rfl
              clear x7 b7 o7 hs7 hnew hxa ho1 g1 g2 g4 hX9 b9
              go_wp2_with fail
              have hTK := HTK.out
              refine ⟨⟨i + 1, true, xe, by simp, by omega, rfl, rfl, Lib.hid (by rw [hTK, stE_app, HGP.out]), Lib.hid (by rw [hTK, stB_app, HLB.out]), Lib.hid ?_, HX10⟩, by simp only [intOf]; omega⟩
              rw [hTK, rowS_app, HSE.out, HSB.out, HRV.out, rwW_app]
              have e5 : rwW [⟨fr, fr + TL, xe, F, false⟩] = [.int .i64 (fr : Nat), .int .i64 ((fr : Int) + (TL : Nat)), .int .i64 (xe : Nat), .int .i64 F, .bool false] := by simp [rwW]
              rw [e5]
              exact HO10.out
          · have hq : (((n : Nat) : Int) == ((L.length : Nat) : Int) - 1) = false := beq_eq_false_iff_ne.2 (by omega)
            have HLB := Lib.hid (show lastP L n = false by unfold lastP; rw [HGP.out]; simp [hl])
            clear hl
            by_cases hh : 0 < xh
            · have hhI : (0 : Int) < (xh : Nat) := by omega
              have HXH := Lib.hid hh
              clear hh
              go_wp2_with fail
              refine (HTR.out TX (w8.setCell ⟨rb, 3, none⟩ (.int .i64 F)) (HX3.out.trans HXT.out) (by omega)).mono ?_
              rintro e W5 ⟨rfl, hx5⟩
              have HRV := Lib.hid (show rwOf s L F R fr true n = ⟨fr, fr + trailL okT TX.size TX.data.toList, xe, F, true⟩ by
                unfold rwOf
                rw [HGP.out, HTX.out, HLB.out]
                simp [HXH.out])
              have htl := trailL_le okT TX.size TX.data.toList
              rw [len_eq] at htl
              generalize trailL okT TX.size TX.data.toList = TL at htl HRV ⊢
              have htlI : ((fr : Nat) : Int) + (TL : Nat) ≤ 1000 := by omega
              have hb5 := hx5.blk HBT.out
              have hX5 := HXT.out.trans hx5
              have ho5 := ownsRow_ext HOT.out hx5
              obtain ⟨x6, b6, o6⟩ := rb_step hX5 hb5 ho5 HNE.out HRB.out 1 (.int .i64 ((fr : Int) + (TL : Nat)))
              obtain ⟨x7, b7, o7⟩ := rb_step x6 b6 o6 HNE.out HRB.out 4 (.bool true)
              have f5 := frz_blk hb5 1
              have f6 := frz_blk b6 4
              have t5 := (cell_blk hb5 1).trans rfl
              have t6 : (W5.setCell ⟨rb, 1, none⟩ (.int .i64 ((fr : Int) + (TL : Nat)))).cell? ⟨rb, 4, none⟩ = some (.bool false) := (cell_blk b6 4).trans rfl
              have g6 : (W5.setCell ⟨rb, 1, none⟩ (.int .i64 ((fr : Int) + (TL : Nat)))).cell? ⟨gl, n * 5 + 2, none⟩ = some (.int .i64 (xh : Nat)) := x6.cell HC2.out
              have r0 : ((W5.setCell ⟨rb, 1, none⟩ (.int .i64 ((fr : Int) + (TL : Nat)))).setCell ⟨rb, 4, none⟩ (.bool true)).cell? ⟨rb, 0, none⟩ = some (.int .i64 (fr : Nat)) := (cell_blk b7 0).trans rfl
              have r1 : ((W5.setCell ⟨rb, 1, none⟩ (.int .i64 ((fr : Int) + (TL : Nat)))).setCell ⟨rb, 4, none⟩ (.bool true)).cell? ⟨rb, 1, none⟩ = some (.int .i64 ((fr : Int) + (TL : Nat))) := (cell_blk b7 1).trans rfl
              have r2 : ((W5.setCell ⟨rb, 1, none⟩ (.int .i64 ((fr : Int) + (TL : Nat)))).setCell ⟨rb, 4, none⟩ (.bool true)).cell? ⟨rb, 2, none⟩ = some (.int .i64 (xe : Nat)) := (cell_blk b7 2).trans rfl
              have r3 : ((W5.setCell ⟨rb, 1, none⟩ (.int .i64 ((fr : Int) + (TL : Nat)))).setCell ⟨rb, 4, none⟩ (.bool true)).cell? ⟨rb, 3, none⟩ = some (.int .i64 F) := (cell_blk b7 3).trans rfl
              have r4 : ((W5.setCell ⟨rb, 1, none⟩ (.int .i64 ((fr : Int) + (TL : Nat)))).setCell ⟨rb, 4, none⟩ (.bool true)).cell? ⟨rb, 4, none⟩ = some (.bool true) := (cell_blk b7 4).trans rfl
              have H7 := Lib.hid (And.intro x7 (And.intro b7 o7))
              clear hx5 hb5 hX5 ho5 x6 b6 o6 x7 b7 o7
              go_wp2_with (at_builtin; refine Hid.out ?_)
              obtain ⟨x7, b7, o7⟩ := H7.out
              simp only [List.setIfInBounds_toArray, List.set_cons_succ, List.set_cons_zero] at b7
              have hs7 : ((W5.setCell ⟨rb, 1, none⟩ (.int .i64 ((fr : Int) + (TL : Nat)))).setCell ⟨rb, 4, none⟩ (.bool true)).heap.size = W5.heap.size := by simp
              clear H7 r0 r1 r2 r3 r4 g6 f5 f6 t5 t6
              generalize (W5.setCell ⟨rb, 1, none⟩ (.int .i64 ((fr : Int) + (TL : Nat)))).setCell ⟨rb, 4, none⟩ (.bool true) = W7 at x7 b7 o7 hs7 ⊢
              obtain ⟨i0, hi0, hz0, hz1, hz3⟩ := info_parts Tryz.infoRw
              have hnew := World.alloc_heap_new W7 (.cells #[.int .i64 (fr : Nat), .int .i64 ((fr : Int) + (TL : Nat)), .int .i64 (xe : Nat), .int .i64 F, .bool true] 53)
              rw [hs7] at hnew
              have hxa := (Ext.refl W7).alloc (.cells #[.int .i64 (fr : Nat), .int .i64 ((fr : Int) + (TL : Nat)), .int .i64 (xe : Nat), .int .i64 F, .bool true] 53)
              have ho1 := ownsRow_ext o7 hxa
              refine wpList_append_own_at _ rfl (.tmp 97) (.tmp 99) 49 rfl Y 53 i0 (.agg #[.int .i64 0, .int .i64 0, .int .i64 0, .int .i64 0, .bool false]) 5 40 Tryz.underlying49 hi0 hz0 hz1 hz3 rfl (by decide) (.slice po i co) i _ rfl ho1 ⟨W5.heap.size, 0, none⟩ 1 1 [.int .i64 (fr : Nat), .int .i64 ((fr : Int) + (TL : Nat)), .int .i64 (xe : Nat), .int .i64 F, .bool true] rfl rfl (World.news_of_block hnew) (by intro u hu; simp at hu; rcases hu with rfl | rfl | rfl | rfl | rfl <;> rfl) (by have := HEL.out; unfold maxLen; omega) (by have := HEL.out; omega) (by rw [← HY.out]; exact (x7.trans hxa).sz) ?_
              intro v' w9 g1 g2 _ g4
              obtain ⟨p10, c10, rfl⟩ := own_slice g1
              have hX9 := x7.trans hxa
              have HX10 := Lib.hid (show Ext w3 w9 from Below.grown hX9 g2 hX9.sz (fun k e => by have := (ho1.lt k e).1; rw [HY.out]; exact this))
              have HO10 := Lib.hid g1
              have b9 := (g2.block rb (blk_lt (hxa.blk b7)) (fun e => HNE.out e.symm)).trans (hxa.blk b7)
              have r9 : w9.cell? ⟨rb, 2, none⟩ = some (.int .i64 (xe : Nat)) := (cell_blk b9 2).trans rfl
              clear x7 b7 o7 hs7 hnew hxa ho1 g1 g2 g4 hX9 b9
              go_wp2_with fail
              have hTK := HTK.out
              refine ⟨⟨i + 1, false, xe, by simp, by omega, rfl, rfl, Lib.hid (by rw [hTK, stE_app, HGP.out]), Lib.hid (by rw [hTK, stB_app, HLB.out]), Lib.hid ?_, HX10⟩, by simp only [intOf]; omega⟩
              rw [hTK, rowS_app, HSE.out, HSB.out, HRV.out, rwW_app]
              have e5 : rwW [⟨fr, fr + TL, xe, F, true⟩] = [.int .i64 (fr : Nat), .int .i64 ((fr : Int) + (TL : Nat)), .int .i64 (xe : Nat), .int .i64 F, .bool true] := by simp [rwW]
              rw [e5]
              exact HO10.out
            · have hhI : ¬ (0 : Int) < (xh : Nat) := by omega
              have HXH := Lib.hid hh
              clear hh
              go_wp2_with fail
              refine (HTR.out TX (w8.setCell ⟨rb, 3, none⟩ (.int .i64 F)) (HX3.out.trans HXT.out) (by omega)).mono ?_
              rintro e W5 ⟨rfl, hx5⟩
              have HRV := Lib.hid (show rwOf s L F R fr true n = ⟨fr, fr + trailL okT TX.size TX.data.toList, xe, F, false⟩ by
                unfold rwOf
                rw [HGP.out, HTX.out, HLB.out]
                simp [HXH.out])
              have htl := trailL_le okT TX.size TX.data.toList
              rw [len_eq] at htl
              generalize trailL okT TX.size TX.data.toList = TL at htl HRV ⊢
              have htlI : ((fr : Nat) : Int) + (TL : Nat) ≤ 1000 := by omega
              have hb5 := hx5.blk HBT.out
              have hX5 := HXT.out.trans hx5
              have ho5 := ownsRow_ext HOT.out hx5
              obtain ⟨x6, b6, o6⟩ := rb_step hX5 hb5 ho5 HNE.out HRB.out 1 (.int .i64 ((fr : Int) + (TL : Nat)))
              obtain ⟨x7, b7, o7⟩ := rb_step x6 b6 o6 HNE.out HRB.out 4 (.bool false)
              have f5 := frz_blk hb5 1
              have f6 := frz_blk b6 4
              have t5 := (cell_blk hb5 1).trans rfl
              have t6 : (W5.setCell ⟨rb, 1, none⟩ (.int .i64 ((fr : Int) + (TL : Nat)))).cell? ⟨rb, 4, none⟩ = some (.bool false) := (cell_blk b6 4).trans rfl
              have g6 : (W5.setCell ⟨rb, 1, none⟩ (.int .i64 ((fr : Int) + (TL : Nat)))).cell? ⟨gl, n * 5 + 2, none⟩ = some (.int .i64 (xh : Nat)) := x6.cell HC2.out
              have r0 : ((W5.setCell ⟨rb, 1, none⟩ (.int .i64 ((fr : Int) + (TL : Nat)))).setCell ⟨rb, 4, none⟩ (.bool false)).cell? ⟨rb, 0, none⟩ = some (.int .i64 (fr : Nat)) := (cell_blk b7 0).trans rfl
              have r1 : ((W5.setCell ⟨rb, 1, none⟩ (.int .i64 ((fr : Int) + (TL : Nat)))).setCell ⟨rb, 4, none⟩ (.bool false)).cell? ⟨rb, 1, none⟩ = some (.int .i64 ((fr : Int) + (TL : Nat))) := (cell_blk b7 1).trans rfl
              have r2 : ((W5.setCell ⟨rb, 1, none⟩ (.int .i64 ((fr : Int) + (TL : Nat)))).setCell ⟨rb, 4, none⟩ (.bool false)).cell? ⟨rb, 2, none⟩ = some (.int .i64 (xe : Nat)) := (cell_blk b7 2).trans rfl
              have r3 : ((W5.setCell ⟨rb, 1, none⟩ (.int .i64 ((fr : Int) + (TL : Nat)))).setCell ⟨rb, 4, none⟩ (.bool false)).cell? ⟨rb, 3, none⟩ = some (.int .i64 F) := (cell_blk b7 3).trans rfl
              have r4 : ((W5.setCell ⟨rb, 1, none⟩ (.int .i64 ((fr : Int) + (TL : Nat)))).setCell ⟨rb, 4, none⟩ (.bool false)).cell? ⟨rb, 4, none⟩ = some (.bool false) := (cell_blk b7 4).trans rfl
              have H7 := Lib.hid (And.intro x7 (And.intro b7 o7))
              clear hx5 hb5 hX5 ho5 x6 b6 o6 x7 b7 o7
              go_wp2_with (at_builtin; refine Hid.out ?_)
              obtain ⟨x7, b7, o7⟩ := H7.out
              simp only [List.setIfInBounds_toArray, List.set_cons_succ, List.set_cons_zero] at b7
              have hs7 : ((W5.setCell ⟨rb, 1, none⟩ (.int .i64 ((fr : Int) + (TL : Nat)))).setCell ⟨rb, 4, none⟩ (.bool false)).heap.size = W5.heap.size := by simp
              clear H7 r0 r1 r2 r3 r4 g6 f5 f6 t5 t6
              generalize (W5.setCell ⟨rb, 1, none⟩ (.int .i64 ((fr : Int) + (TL : Nat)))).setCell ⟨rb, 4, none⟩ (.bool false) = W7 at x7 b7 o7 hs7 ⊢
              obtain ⟨i0, hi0, hz0, hz1, hz3⟩ := info_parts Tryz.infoRw
              have hnew := World.alloc_heap_new W7 (.cells #[.int .i64 (fr : Nat), .int .i64 ((fr : Int) + (TL : Nat)), .int .i64 (xe : Nat), .int .i64 F, .bool false] 53)
              rw [hs7] at hnew
              have hxa := (Ext.refl W7).alloc (.cells #[.int .i64 (fr : Nat), .int .i64 ((fr : Int) + (TL : Nat)), .int .i64 (xe : Nat), .int .i64 F, .bool false] 53)
              have ho1 := ownsRow_ext o7 hxa
              refine wpList_append_own_at _ rfl (.tmp 97) (.tmp 99) 49 rfl Y 53 i0 (.agg #[.int .i64 0, .int .i64 0, .int .i64 0, .int .i64 0, .bool false]) 5 40 Tryz.underlying49 hi0 hz0 hz1 hz3 rfl (by decide) (.slice po i co) i _ rfl ho1 ⟨W5.heap.size, 0, none⟩ 1 1 [.int .i64 (fr : Nat), .int .i64 ((fr : Int) + (TL : Nat)), .int .i64 (xe : Nat), .int .i64 F, .bool false] rfl rfl (World.news_of_block hnew) (by intro u hu; simp at hu; rcases hu with rfl | rfl | rfl | rfl | rfl <;> rfl) (by have := HEL.out; unfold maxLen; omega) (by have := HEL.out; omega) (by rw [← HY.out]; exact (x7.trans hxa).sz) ?_
              intro v' w9 g1 g2 _ g4
              obtain ⟨p10, c10, rfl⟩ := own_slice g1
              have hX9 := x7.trans hxa
              have HX10 := Lib.hid (show Ext w3 w9 from Below.grown hX9 g2 hX9.sz (fun k e => by have := (ho1.lt k e).1; rw [HY.out]; exact this))
              have HO10 := Lib.hid g1
              have b9 := (g2.block rb (blk_lt (hxa.blk b7)) (fun e => HNE.out e.symm)).trans (hxa.blk b7)
              have r9 : w9.cell? ⟨rb, 2, none⟩ = some (.int .i64 (xe : Nat)) := (cell_blk b9 2).trans rfl
              clear x7 b7 o7 hs7 hnew hxa ho1 g1 g2 g4 hX9 b9
              go_wp2_with fail
              have hTK := HTK.out
              refine ⟨⟨i + 1, false, xe, by simp, by omega, rfl, rfl, Lib.hid (by rw [hTK, stE_app, HGP.out]), Lib.hid (by rw [hTK, stB_app, HLB.out]), Lib.hid ?_, HX10⟩, by simp only [intOf]; omega⟩
              rw [hTK, rowS_app, HSE.out, HSB.out, HRV.out, rwW_app]
              have e5 : rwW [⟨fr, fr + TL, xe, F, false⟩] = [.int .i64 (fr : Nat), .int .i64 ((fr : Int) + (TL : Nat)), .int .i64 (xe : Nat), .int .i64 F, .bool false] := by simp [rwW]
              rw [e5]
              exact HO10.out
        · have HLB := Lib.hid (show lastP L n = true by unfold lastP; rw [HGP.out]; simp)
          by_cases hh : 0 < xh
          · have hhI : (0 : Int) < (xh : Nat) := by omega
            have HXH := Lib.hid hh
            clear hh
            go_wp2_with fail
            refine (HTR.out TX (w8.setCell ⟨rb, 3, none⟩ (.int .i64 F)) (HX3.out.trans HXT.out) (by omega)).mono ?_
            rintro e W5 ⟨rfl, hx5⟩
            have HRV := Lib.hid (show rwOf s L F R fr true n = ⟨fr, fr + trailL okT TX.size TX.data.toList, xe, F, false⟩ by
              unfold rwOf
              rw [HGP.out, HTX.out, HLB.out]
              simp [HXH.out])
            have htl := trailL_le okT TX.size TX.data.toList
            rw [len_eq] at htl
            generalize trailL okT TX.size TX.data.toList = TL at htl HRV ⊢
            have htlI : ((fr : Nat) : Int) + (TL : Nat) ≤ 1000 := by omega
            have hb5 := hx5.blk HBT.out
            have hX5 := HXT.out.trans hx5
            have ho5 := ownsRow_ext HOT.out hx5
            obtain ⟨x6, b6, o6⟩ := rb_step hX5 hb5 ho5 HNE.out HRB.out 1 (.int .i64 ((fr : Int) + (TL : Nat)))
            obtain ⟨x7, b7, o7⟩ := rb_step x6 b6 o6 HNE.out HRB.out 4 (.bool false)
            have f5 := frz_blk hb5 1
            have f6 := frz_blk b6 4
            have t5 := (cell_blk hb5 1).trans rfl
            have t6 : (W5.setCell ⟨rb, 1, none⟩ (.int .i64 ((fr : Int) + (TL : Nat)))).cell? ⟨rb, 4, none⟩ = some (.bool false) := (cell_blk b6 4).trans rfl
            have g6 : (W5.setCell ⟨rb, 1, none⟩ (.int .i64 ((fr : Int) + (TL : Nat)))).cell? ⟨gl, n * 5 + 2, none⟩ = some (.int .i64 (xh : Nat)) := x6.cell HC2.out
            have r0 : ((W5.setCell ⟨rb, 1, none⟩ (.int .i64 ((fr : Int) + (TL : Nat)))).setCell ⟨rb, 4, none⟩ (.bool false)).cell? ⟨rb, 0, none⟩ = some (.int .i64 (fr : Nat)) := (cell_blk b7 0).trans rfl
            have r1 : ((W5.setCell ⟨rb, 1, none⟩ (.int .i64 ((fr : Int) + (TL : Nat)))).setCell ⟨rb, 4, none⟩ (.bool false)).cell? ⟨rb, 1, none⟩ = some (.int .i64 ((fr : Int) + (TL : Nat))) := (cell_blk b7 1).trans rfl
            have r2 : ((W5.setCell ⟨rb, 1, none⟩ (.int .i64 ((fr : Int) + (TL : Nat)))).setCell ⟨rb, 4, none⟩ (.bool false)).cell? ⟨rb, 2, none⟩ = some (.int .i64 (xe : Nat)) := (cell_blk b7 2).trans rfl
            have r3 : ((W5.setCell ⟨rb, 1, none⟩ (.int .i64 ((fr : Int) + (TL : Nat)))).setCell ⟨rb, 4, none⟩ (.bool false)).cell? ⟨rb, 3, none⟩ = some (.int .i64 F) := (cell_blk b7 3).trans rfl
            have r4 : ((W5.setCell ⟨rb, 1, none⟩ (.int .i64 ((fr : Int) + (TL : Nat)))).setCell ⟨rb, 4, none⟩ (.bool false)).cell? ⟨rb, 4, none⟩ = some (.bool false) := (cell_blk b7 4).trans rfl
            have H7 := Lib.hid (And.intro x7 (And.intro b7 o7))
            clear hx5 hb5 hX5 ho5 x6 b6 o6 x7 b7 o7
            go_wp2_with (at_builtin; refine Hid.out ?_)
            obtain ⟨x7, b7, o7⟩ := H7.out
            simp only [List.setIfInBounds_toArray, List.set_cons_succ, List.set_cons_zero] at b7
            have hs7 : ((W5.setCell ⟨rb, 1, none⟩ (.int .i64 ((fr : Int) + (TL : Nat)))).setCell ⟨rb, 4, none⟩ (.bool false)).heap.size = W5.heap.size := by simp
            clear H7 r0 r1 r2 r3 r4 g6 f5 f6 t5 t6
            generalize (W5.setCell ⟨rb, 1, none⟩ (.int .i64 ((fr : Int) + (TL : Nat)))).setCell ⟨rb, 4, none⟩ (.bool false) = W7 at x7 b7 o7 hs7 ⊢
            obtain ⟨i0, hi0, hz0, hz1, hz3⟩ := info_parts Tryz.infoRw
            have hnew := World.alloc_heap_new W7 (.cells #[.int .i64 (fr : Nat), .int .i64 ((fr : Int) + (TL : Nat)), .int .i64 (xe : Nat), .int .i64 F, .bool false] 53)
            rw [hs7] at hnew
            have hxa := (Ext.refl W7).alloc (.cells #[.int .i64 (fr : Nat), .int .i64 ((fr : Int) + (TL : Nat)), .int .i64 (xe : Nat), .int .i64 F, .bool false] 53)
            have ho1 := ownsRow_ext o7 hxa
            refine wpList_append_own_at _ rfl (.tmp 97) (.tmp 99) 49 rfl Y 53 i0 (.agg #[.int .i64 0, .int .i64 0, .int .i64 0, .int .i64 0, .bool false]) 5 40 Tryz.underlying49 hi0 hz0 hz1 hz3 rfl (by decide) (.slice po i co) i _ rfl ho1 ⟨W5.heap.size, 0, none⟩ 1 1 [.int .i64 (fr : Nat), .int .i64 ((fr : Int) + (TL : Nat)), .int .i64 (xe : Nat), .int .i64 F, .bool false] rfl rfl (World.news_of_block hnew) (by intro u hu; simp at hu; rcases hu with rfl | rfl | rfl | rfl | rfl <;> rfl) (by have := HEL.out; unfold maxLen; omega) (by have := HEL.out; omega) (by rw [← HY.out]; exact (x7.trans hxa).sz) ?_
            intro v' w9 g1 g2 _ g4
            obtain ⟨p10, c10, rfl⟩ := own_slice g1
            have hX9 := x7.trans hxa
            have HX10 := Lib.hid (show Ext w3 w9 from Below.grown hX9 g2 hX9.sz (fun k e => by have := (ho1.lt k e).1; rw [HY.out]; exact this))
            have HO10 := Lib.hid g1
            have b9 := (g2.block rb (blk_lt (hxa.blk b7)) (fun e => HNE.out e.symm)).trans (hxa.blk b7)
            have r9 : w9.cell? ⟨rb, 2, none⟩ = some (.int .i64 (xe : Nat)) := (cell_blk b9 2).trans rfl
            clear x7 b7 o7 hs7 hnew hxa ho1 g1 g2 g4 hX9 b9
            go_wp2_with fail
            have hTK := HTK.out
            refine ⟨⟨i + 1, true, xe, by simp, by omega, rfl, rfl, Lib.hid (by rw [hTK, stE_app, HGP.out]), Lib.hid (by rw [hTK, stB_app, HLB.out]), Lib.hid ?_, HX10⟩, by simp only [intOf]; omega⟩
            rw [hTK, rowS_app, HSE.out, HSB.out, HRV.out, rwW_app]
            have e5 : rwW [⟨fr, fr + TL, xe, F, false⟩] = [.int .i64 (fr : Nat), .int .i64 ((fr : Int) + (TL : Nat)), .int .i64 (xe : Nat), .int .i64 F, .bool false] := by simp [rwW]
            rw [e5]
            exact HO10.out
          · have hhI : ¬ (0 : Int) < (xh : Nat) := by omega
            have HXH := Lib.hid hh
            clear hh
            go_wp2_with fail
            refine (HTR.out TX (w8.setCell ⟨rb, 3, none⟩ (.int .i64 F)) (HX3.out.trans HXT.out) (by omega)).mono ?_
            rintro e W5 ⟨rfl, hx5⟩
            have HRV := Lib.hid (show rwOf s L F R fr true n = ⟨fr, fr + trailL okT TX.size TX.data.toList, xe, F, false⟩ by
              unfold rwOf
              rw [HGP.out, HTX.out, HLB.out]
              simp [HXH.out])
            have htl := trailL_le okT TX.size TX.data.toList
            rw [len_eq] at htl
            generalize trailL okT TX.size TX.data.toList = TL at htl HRV ⊢
            have htlI : ((fr : Nat) : Int) + (TL : Nat) ≤ 1000 := by omega
            have hb5 := hx5.blk HBT.out
            have hX5 := HXT.out.trans hx5
            have ho5 := ownsRow_ext HOT.out hx5
            obtain ⟨x6, b6, o6⟩ := rb_step hX5 hb5 ho5 HNE.out HRB.out 1 (.int .i64 ((fr : Int) + (TL : Nat)))
            obtain ⟨x7, b7, o7⟩ := rb_step x6 b6 o6 HNE.out HRB.out 4 (.bool false)
            have f5 := frz_blk hb5 1
            have f6 := frz_blk b6 4
            have t5 := (cell_blk hb5 1).trans rfl
            have t6 : (W5.setCell ⟨rb, 1, none⟩ (.int .i64 ((fr : Int) + (TL : Nat)))).cell? ⟨rb, 4, none⟩ = some (.bool false) := (cell_blk b6 4).trans rfl
            have g6 : (W5.setCell ⟨rb, 1, none⟩ (.int .i64 ((fr : Int) + (TL : Nat)))).cell? ⟨gl, n * 5 + 2, none⟩ = some (.int .i64 (xh : Nat)) := x6.cell HC2.out
            have r0 : ((W5.setCell ⟨rb, 1, none⟩ (.int .i64 ((fr : Int) + (TL : Nat)))).setCell ⟨rb, 4, none⟩ (.bool false)).cell? ⟨rb, 0, none⟩ = some (.int .i64 (fr : Nat)) := (cell_blk b7 0).trans rfl
            have r1 : ((W5.setCell ⟨rb, 1, none⟩ (.int .i64 ((fr : Int) + (TL : Nat)))).setCell ⟨rb, 4, none⟩ (.bool false)).cell? ⟨rb, 1, none⟩ = some (.int .i64 ((fr : Int) + (TL : Nat))) := (cell_blk b7 1).trans rfl
            have r2 : ((W5.setCell ⟨rb, 1, none⟩ (.int .i64 ((fr : Int) + (TL : Nat)))).setCell ⟨rb, 4, none⟩ (.bool false)).cell? ⟨rb, 2, none⟩ = some (.int .i64 (xe : Nat)) := (cell_blk b7 2).trans rfl
            have r3 : ((W5.setCell ⟨rb, 1, none⟩ (.int .i64 ((fr : Int) + (TL : Nat)))).setCell ⟨rb, 4, none⟩ (.bool false)).cell? ⟨rb, 3, none⟩ = some (.int .i64 F) := (cell_blk b7 3).trans rfl
            have r4 : ((W5.setCell ⟨rb, 1, none⟩ (.int .i64 ((fr : Int) + (TL : Nat)))).setCell ⟨rb, 4, none⟩ (.bool false)).cell? ⟨rb, 4, none⟩ = some (.bool false) := (cell_blk b7 4).trans rfl
            have H7 := Lib.hid (And.intro x7 (And.intro b7 o7))
            clear hx5 hb5 hX5 ho5 x6 b6 o6 x7 b7 o7
            go_wp2_with (at_builtin; refine Hid.out ?_)
            obtain ⟨x7, b7, o7⟩ := H7.out
            simp only [List.setIfInBounds_toArray, List.set_cons_succ, List.set_cons_zero] at b7
            have hs7 : ((W5.setCell ⟨rb, 1, none⟩ (.int .i64 ((fr : Int) + (TL : Nat)))).setCell ⟨rb, 4, none⟩ (.bool false)).heap.size = W5.heap.size := by simp
            clear H7 r0 r1 r2 r3 r4 g6 f5 f6 t5 t6
            generalize (W5.setCell ⟨rb, 1, none⟩ (.int .i64 ((fr : Int) + (TL : Nat)))).setCell ⟨rb, 4, none⟩ (.bool false) = W7 at x7 b7 o7 hs7 ⊢
            obtain ⟨i0, hi0, hz0, hz1, hz3⟩ := info_parts Tryz.infoRw
            have hnew := World.alloc_heap_new W7 (.cells #[.int .i64 (fr : Nat), .int .i64 ((fr : Int) + (TL : Nat)), .int .i64 (xe : Nat), .int .i64 F, .bool false] 53)
            rw [hs7] at hnew
            have hxa := (Ext.refl W7).alloc (.cells #[.int .i64 (fr : Nat), .int .i64 ((fr : Int) + (TL : Nat)), .int .i64 (xe : Nat), .int .i64 F, .bool false] 53)
            have ho1 := ownsRow_ext o7 hxa
            refine wpList_append_own_at _ rfl (.tmp 97) (.tmp 99) 49 rfl Y 53 i0 (.agg #[.int .i64 0, .int .i64 0, .int .i64 0, .int .i64 0, .bool false]) 5 40 Tryz.underlying49 hi0 hz0 hz1 hz3 rfl (by decide) (.slice po i co) i _ rfl ho1 ⟨W5.heap.size, 0, none⟩ 1 1 [.int .i64 (fr : Nat), .int .i64 ((fr : Int) + (TL : Nat)), .int .i64 (xe : Nat), .int .i64 F, .bool false] rfl rfl (World.news_of_block hnew) (by intro u hu; simp at hu; rcases hu with rfl | rfl | rfl | rfl | rfl <;> rfl) (by have := HEL.out; unfold maxLen; omega) (by have := HEL.out; omega) (by rw [← HY.out]; exact (x7.trans hxa).sz) ?_
            intro v' w9 g1 g2 _ g4
            obtain ⟨p10, c10, rfl⟩ := own_slice g1
            have hX9 := x7.trans hxa
            have HX10 := Lib.hid (show Ext w3 w9 from Below.grown hX9 g2 hX9.sz (fun k e => by have := (ho1.lt k e).1; rw [HY.out]; exact this))
            have HO10 := Lib.hid g1
            have b9 := (g2.block rb (blk_lt (hxa.blk b7)) (fun e => HNE.out e.symm)).trans (hxa.blk b7)
            have r9 : w9.cell? ⟨rb, 2, none⟩ = some (.int .i64 (xe : Nat)) := (cell_blk b9 2).trans rfl
            clear x7 b7 o7 hs7 hnew hxa ho1 g1 g2 g4 hX9 b9
            go_wp2_with fail
            have hTK := HTK.out
            refine ⟨⟨i + 1, true, xe, by simp, by omega, rfl, rfl, Lib.hid (by rw [hTK, stE_app, HGP.out]), Lib.hid (by rw [hTK, stB_app, HLB.out]), Lib.hid ?_, HX10⟩, by simp only [intOf]; omega⟩
            rw [hTK, rowS_app, HSE.out, HSB.out, HRV.out, rwW_app]
            have e5 : rwW [⟨fr, fr + TL, xe, F, false⟩] = [.int .i64 (fr : Nat), .int .i64 ((fr : Int) + (TL : Nat)), .int .i64 (xe : Nat), .int .i64 F, .bool false] := by simp [rwW]
            rw [e5]
            exact HO10.out
    · have hI : ¬ ((i : Nat) : Int) < (E.length : Nat) := by omega
      have hd : decide (i < E.length) = false := decide_eq_false hlt
      obtain rfl : i = E.length := by omega
      go_wp2_with fail
      refine ret_two rfl rfl rfl rfl ⟨_, rfl, ?_, HX3.out.trans HX.out⟩
      have h2 := own_lower HO.out (show w.heap.size ≤ Y by rw [← HY.out]; exact HX3.out.sz)
      rw [List.take_length] at h2
      exact h2
end Go.Proofs.YtlmkbldiicbejaaGreatDoor
