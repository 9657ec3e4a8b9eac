/-
  A text cut; blanks in the place of tabs; which letter stands in a column. Blanks in the place of tabs. Which letter stands in a column.
-/
import Derived.Test.YtafmhmcinhbpfaaGreatDoorWaE
import Derived.Lib.AppendStr
section
namespace Go.Proofs.YtafmhmcinhbpfaaGreatDoor
open Go.RowKit Go.Rp Go.Maps Go.Cl Go.Shelf Go.Gr

/-- The longest beginning that fits, and the column behind it. -/
noncomputable def cutK (a t st : Nat) (s : ByteArray) (cells : Int) : ByteArray × Nat :=
  if cells < (st : Nat) then (⟨#[]⟩, st) else match (fitK a t st s cells).getLast? with
  | none => (⟨#[]⟩, st)
  | some p => (s.extract 0 p.t, p.b)
theorem fitK_pre (a t st : Nat) (s : ByteArray) (cells : Int) : ∃ n, n ≤ (plcs a t st s).length ∧ fitK a t st s cells = (plcs a t st s).take n := by
  obtain ⟨r, hr⟩ := List.takeWhile_prefix (l := plcs a t st s) (fitB s cells)
  refine ⟨(fitK a t st s cells).length, ?_, ?_⟩
  · have := congrArg List.length hr
    rw [List.length_append] at this
    unfold fitK
    omega
  · conv => rhs; rw [← hr]
    unfold fitK
    rw [List.take_left' rfl]
theorem fitK_get (a t st : Nat) (s : ByteArray) (cells : Int) (i : Nat) (h : i < (fitK a t st s cells).length) : ∃ h2 : i < (plcs a t st s).length, (fitK a t st s cells)[i] = (plcs a t st s)[i] := by
  obtain ⟨n, hn, e⟩ := fitK_pre a t st s cells
  have hl : (fitK a t st s cells).length = n := by rw [e, List.length_take]; omega
  refine ⟨by omega, ?_⟩
  have : (fitK a t st s cells)[i] = ((plcs a t st s).take n)[i]'(by rw [List.length_take]; omega) := by congr 1
  rw [this, List.getElem_take]
theorem fitK_len (a t st : Nat) (s : ByteArray) (cells : Int) : (fitK a t st s cells).length ≤ s.size + 1 := by
  obtain ⟨n, hn, e⟩ := fitK_pre a t st s cells
  have := plcs_le a t st s
  rw [e, List.length_take]
  omega
set_option maxRecDepth 100000 in
set_option maxHeartbeats 4000000 in
theorem c_wCut (a t st : Nat) (s : ByteArray) (cells : Int) (w : World) (ho : CellOk a t st) (hT : TabsW w) (hz : s.size ≤ 65536) :
    Calls Tryz.prog 26 #[.string s, .int .i64 cells, .agg #[.int .i64 (a : Nat), .int .i64 (t : Nat), .int .i64 (st : Nat)]] w fun e w' => e = .returned (.tuple #[.string (cutK a t st s cells).1, .int .i64 ((cutK a t st s cells).2 : Nat)]) ∧ Ext w w' := by
  obtain ⟨h1, h2, h3, h4, h5⟩ := ho.nat
  have HT := Lib.hid hT
  have hpl := fitK_len a t st s cells
  obtain ⟨c, hc⟩ : ∃ c, cutK a t st s cells = c := ⟨_, rfl⟩
  have HC := Lib.hid hc
  rw [hc]
  clear hc
  go_enter Tryz.func26, Tryz.ntmps26
  go_wp2_with fail
  have hbo := World.alloc_heap_new w (.cells #[.int .i64 (a : Nat), .int .i64 (t : Nat), .int .i64 (st : Nat)] 23)
  have hxo := (Ext.refl w).alloc (.cells #[.int .i64 (a : Nat), .int .i64 (t : Nat), .int .i64 (st : Nat)] 23)
  generalize w.alloc (.cells #[.int .i64 (a : Nat), .int .i64 (t : Nat), .int .i64 (st : Nat)] 23) = wo at hbo hxo ⊢
  generalize w.heap.size = ob at hbo ⊢
  refine (c_wCheck (a : Nat) (t : Nat) (st : Nat) _).mono ?_
  rintro e w1 ⟨rfl, hx1⟩
  rw [if_pos ho]
  have HBO := Lib.hid (hx1.blk hbo)
  have HX1 := Lib.hid (hxo.trans hx1)
  have o0 := (cell_blk HBO.out 0).trans rfl
  have o1 : w1.cell? ⟨ob, 1, none⟩ = some (.int .i64 (t : Nat)) := (cell_blk HBO.out 1).trans rfl
  have o2 : w1.cell? ⟨ob, 2, none⟩ = some (.int .i64 (st : Nat)) := (cell_blk HBO.out 2).trans rfl
  clear hbo hxo hx1
  by_cases hlt : cells < (st : Nat)
  · have HV := Lib.hid (show c = (⟨#[]⟩, st) by rw [← HC.out]; unfold cutK; rw [if_pos hlt])
    have s2 : ∀ w', EOn (fun _ => True) w1 w' → w'.cell? ⟨ob, 2, none⟩ = some (.int .i64 (st : Nat)) := fun w' h => h.cell trivial o2
    go_wp2_with fail
    refine wp_lex (fun _ => True) [true, true, true, true] (by kernel_rfl) (by kernel_rfl) ?_
    repeat first
      | refine wpG_move' ?_
      | refine wpG_assign' ?_
      | refine wpG_val' ?_
      | refine wpG_no' ?_
    refine wpG_end (fun w' hx => ?_)
    have HX2 := Lib.hid (HX1.out.trans hx)
    clear hx
    go_wp2_with fail
    refine gQ_normal ?_
    go_wp2_with fail
    exact ret_two rfl rfl rfl rfl ⟨by rw [HV.out]; rfl, HX2.out⟩
  · have HV := Lib.hid (show c = match (fitK a t st s cells).getLast? with
      | none => (⟨#[]⟩, st)
      | some p => (s.extract 0 p.t, p.b) by rw [← HC.out]; unfold cutK; rw [if_neg hlt])
    go_wp2_with fail
    refine (c_wopen (a : Nat) (t : Nat) (st : Nat) w1 (HT.out.ext HX1.out)).mono ?_
    rintro e w2 ⟨bk, rfl, hbk, hx2⟩
    have HBK := Lib.hid hbk
    have HX2 := Lib.hid (HX1.out.trans hx2)
    have p2 := hx2.cell o2
    clear hbk hx2 o0 o1 o2
    have HF := Lib.hid (c_wfitting bk a t st s cells w2 HBK.out ho.book (HT.out.ext HX2.out) hz)
    have HOK := Lib.hid (show ∀ i (h : i < (fitK a t st s cells).length), (fitK a t st s cells)[i].t ≤ s.size ∧ (fitK a t st s cells)[i].b ≤ 1090000000 from fun i h => by
      obtain ⟨h6, e⟩ := fitK_get a t st s cells i h
      rw [e]
      exact ⟨(plcs_ok a t st s i h6).2, (plcs_col a t st s ho.book hz i h6).2⟩)
    generalize fitK a t st s cells = P at hpl HV HF HOK
    go_wp2_with fail
    refine HF.out.mono ?_
    rintro e w3 ⟨v, rfl, hrow, hx⟩
    have HX3 := Lib.hid (HX2.out.trans hx)
    have q2 := hx.cell p2
    obtain ⟨p, cap, rfl, hcap, hcc⟩ := hrow
    clear hx p2
    have hPI : ((P.length : Nat) : Int) ≤ 65537 := by omega
    by_cases h0 : P.length = 0
    · have HV0 := Lib.hid (show c = (⟨#[]⟩, st) by rw [HV.out, List.length_eq_zero_iff.1 h0]; rfl)
      have h0I : ((P.length : Nat) : Int) = 0 := by omega
      have h0J : (((P.length : Nat) : Int) == 0) = true := by simp [h0]
      clear h0 hcc
      have s2 : ∀ w', EOn (fun _ => True) w3 w' → w'.cell? ⟨ob, 2, none⟩ = some (.int .i64 (st : Nat)) := fun w' h => h.cell trivial q2
      go_wp2_with fail
      refine wp_lex (fun _ => True) [true, true, true, true] (by kernel_rfl) (by kernel_rfl) ?_
      repeat first
        | refine wpG_move' ?_
        | refine wpG_assign' ?_
        | refine wpG_val' ?_
        | refine wpG_no' ?_
      refine wpG_end (fun w' hx => ?_)
      have HX4 := Lib.hid (HX3.out.trans hx)
      clear hx
      go_wp2_with fail
      refine gQ_normal ?_
      go_wp2_with fail
      exact ret_two rfl rfl rfl rfl ⟨by rw [HV0.out]; rfl, HX4.out⟩
    · obtain ⟨g, rfl, h6⟩ := hcc (fun e => h0 (by rw [e]; rfl))
      obtain ⟨n, hn⟩ : ∃ n, P.length = n + 1 := ⟨P.length - 1, by omega⟩
      obtain ⟨e0, e1, e2, e3⟩ := h6 n (by omega)
      have HO := Lib.hid (HOK.out n (by omega))
      have HVL := Lib.hid (show c = (s.extract 0 (P[n]'(by omega)).t, (P[n]'(by omega)).b) by
        have e7 : P.getLast? = some (P[n]'(by omega)) := by
          rw [List.getLast?_eq_getElem?]
          have e8 : P.length - 1 = n := by omega
          rw [e8]
          simp
        rw [HV.out, e7])
      obtain ⟨x, hx⟩ : ∃ x, P[n]'(by omega) = x := ⟨_, rfl⟩
      rw [hx] at e0 e1 e2 e3 HO HVL
      obtain ⟨xf, xt, xa, xb⟩ := x
      simp only at e0 e1 e2 e3 HO HVL
      have hxt : ((xt : Nat) : Int) ≤ (s.size : Nat) := by have := HO.out.1; omega
      have hxtn : xt ≤ s.size := HO.out.1
      have hzI : ((s.size : Nat) : Int) ≤ 65536 := by omega
      have hnI : ((n : Nat) : Int) ≤ 65537 := by omega
      have hz1 : (((n : Nat) : Int) + 1 == 0) = false := by simp; omega
      have hz2 : ¬ ((n : Nat) : Int) + 1 = 0 := by omega
      clear hx HV HF HOK
      rw [hn] at hcap ⊢
      clear hn hpl hPI h0 h6 hcc
      go_wp2_with fail
      have hb := World.alloc_heap_new w3 (.cells #[.int .i64 (xf : Nat), .int .i64 (xt : Nat), .int .i64 (xa : Nat), .int .i64 (xb : Nat)] 70)
      have HX4 := Lib.hid (HX3.out.alloc (.cells #[.int .i64 (xf : Nat), .int .i64 (xt : Nat), .int .i64 (xa : Nat), .int .i64 (xb : Nat)] 70))
      generalize w3.alloc (.cells #[.int .i64 (xf : Nat), .int .i64 (xt : Nat), .int .i64 (xa : Nat), .int .i64 (xb : Nat)] 70) = w4 at hb HX4 ⊢
      generalize w3.heap.size = xbk at hb ⊢
      have s1 : ∀ w', EOn (fun _ => True) w4 w' → w'.cell? ⟨xbk, 1, none⟩ = some (.int .i64 (xt : Nat)) := fun w' h => h.cell trivial ((cell_blk hb 1).trans rfl)
      have s3 : ∀ w', EOn (fun _ => True) w4 w' → w'.cell? ⟨xbk, 3, none⟩ = some (.int .i64 (xb : Nat)) := fun w' h => h.cell trivial ((cell_blk hb 3).trans rfl)
      refine wp_lex (fun _ => True) [true, true, true, true, true, true, true, true] (by kernel_rfl) (by kernel_rfl) ?_
      repeat first
        | refine wpG_move' ?_
        | refine wpG_assign' ?_
        | refine wpG_val' ?_
        | refine wpG_no' ?_
      refine wpG_end (fun w' hx => ?_)
      have HX5 := Lib.hid (HX4.out.trans hx)
      clear hx
      go_wp2_with fail
      refine gQ_normal ?_
      go_wp2_with fail
      exact ret_two rfl rfl rfl rfl ⟨by rw [HVL.out]; rfl, HX5.out⟩
end Go.Proofs.YtafmhmcinhbpfaaGreatDoor
end

section
namespace Go.Proofs.YtafmhmcinhbpfaaGreatDoor
open Go.RowKit Go.Rp Go.Maps Go.Cl Go.Shelf Go.Gr

theorem conv_rowC {W : World} {B : Nat} {v : Value} {F : List UInt8} (h : W.ownsRow B 5 1 v F.length (Lib.byteCells F)) : ∀ w', EOn (fun _ => True) W w' → (convert 88 9 v).run Tryz.prog w' = .ok (.string ⟨F.toArray⟩) w' := fun w' hx => by
  obtain ⟨p, c, rfl⟩ := own_slice h
  by_cases h0 : F = []
  · subst h0
    rcases h.2 with ⟨e, _⟩ | ⟨g, cap', cur, e, _⟩
    · cases e
      exact run_convert_bytes_nil (P := Tryz.prog) w' 88 5 Tryz.underlying88 Tryz.underlying5 _ _ _ Tryz.underlying9
    · cases e
      exact run_convert_bytes_back (P := Tryz.prog) w' 88 9 5 _ _ [] Tryz.underlying88 Tryz.underlying5 Tryz.underlying9 (fun j hj => by cases hj)
  · have hl : 0 < F.length := List.length_pos_iff.2 h0
    obtain ⟨g, rfl, _, _, hg⟩ := own_at h hl
    exact run_convert_bytes_back (P := Tryz.prog) w' 88 9 5 ⟨g, 0, none⟩ c F Tryz.underlying88 Tryz.underlying5 Tryz.underlying9 (fun j hj => by
      have hadd : (⟨g, 0, none⟩ : Addr).add j = ⟨g, j, none⟩ := by unfold Addr.add; split <;> simp_all
      rw [hadd]
      refine hx.cell trivial ((hg j (by omega)).trans ?_)
      simp [Lib.byteCells, List.getElem?_eq_getElem hj])
theorem Tryz.infoU8 : (Tryz.prog.info? 5).map (fun i => (i.zero, i.size, i.bytes)) = some (some (.int .u8 0), 1, 1) := by kernel_rfl
/-- What is put in the place of a letter. -/
noncomputable def plB (s : ByteArray) (p : Plc) : List UInt8 := if (subS s (p.f, p.t)).headD 0 = 9 then List.replicate (p.b - p.a) 32 else subS s (p.f, p.t)
noncomputable def plainK (a t st : Nat) (s : ByteArray) : List UInt8 := (plcs a t st s).flatMap (plB s)
theorem bhK_tab (a t col : Nat) (l : List UInt8) (h : l.headD 0 = 9) : bhK a t col l = col - col % t + t := by
  have hne : l ≠ [] := by intro e; subst e; simp at h
  have he : enT l = false := by
    unfold enT
    rw [(head_tab l hne).1 h]
    rfl
  unfold bhK behindC
  rw [he, if_neg (by simp), if_pos h]
theorem colS_one (a t : Nat) (s : ByteArray) (c : Nat) (p : Nat × Nat) : colS a t s c [p] = bhK a t c (subS s p) := rfl
theorem plcs_beh (a t st : Nat) (s : ByteArray) (i : Nat) (h : i < (plcs a t st s).length) : (plcs a t st s)[i].b = bhK a t (plcs a t st s)[i].a (subS s ((plcs a t st s)[i].f, (plcs a t st s)[i].t)) := by
  have hl := plcs_len a t st s
  have := plcS_get a t s (pairsOf (bdG s)) st i (by omega) h
  have h2 : (plcs a t st s)[i] = _ := this
  rw [h2]
  simp only
  rw [List.take_succ_eq_append_getElem (by omega), colS_app, colS_one]
theorem subS_len (s : ByteArray) (f t : Nat) (h1 : f < t) (h2 : t ≤ s.size) : (subS s (f, t)).length = t - f := by
  unfold subS
  rw [len_eq]
  simp
  omega
theorem subS_head (s : ByteArray) (f t : Nat) (h1 : f < t) (h2 : t ≤ s.size) : (subS s (f, t)).headD 0 = s[f]'(by omega) := by
  unfold subS
  simp only
  rw [toList_extract]
  have hf : f < s.data.toList.length := by rw [len_eq]; omega
  rw [List.drop_eq_getElem_cons hf]
  obtain ⟨k, hk⟩ : ∃ k, t - f = k + 1 := ⟨t - f - 1, by omega⟩
  rw [hk, List.take_succ_cons]
  simp
  rfl
theorem plB_le (a t : Nat) (s : ByteArray) (ht2 : t ≤ 64) (p : Plc) (h1 : p.f < p.t) (h2 : p.t ≤ s.size) (hb : p.b = bhK a t p.a (subS s (p.f, p.t))) : (plB s p).length ≤ 64 + (p.t - p.f) := by
  unfold plB
  split
  · rename_i h
    rw [List.length_replicate, hb, bhK_tab a t p.a _ h]
    have := Nat.mod_le p.a t
    omega
  · rw [subS_len s p.f p.t h1 h2]
    omega
theorem repeat_blank : ∀ n : Nat, Lib.repeatL [32] n = List.replicate n 32
  | 0 => rfl
  | n + 1 => by rw [Lib.repeatL, repeat_blank n]; rfl
theorem flat_le (l : List Plc) (f : Plc → List UInt8) (B : Nat) (h : ∀ p ∈ l, (f p).length ≤ B) : (l.flatMap f).length ≤ B * l.length := by
  induction l with
  | nil => simp
  | cons x l ih =>
    rw [List.flatMap_cons, List.length_append, List.length_cons, Nat.mul_add, Nat.mul_one]
    have h1 := h x (by simp)
    have h2 := ih (fun p hp => h p (by simp [hp]))
    omega
set_option maxRecDepth 100000 in
set_option maxHeartbeats 4000000 in
theorem c_wPlain (a t st : Nat) (s : ByteArray) (w : World) (ho : CellOk a t st) (hT : TabsW w) (hz : s.size ≤ 65536) :
    Calls Tryz.prog 32 #[.string s, .agg #[.int .i64 (a : Nat), .int .i64 (t : Nat), .int .i64 (st : Nat)]] w fun e w' => e = .returned (.string ⟨(plainK a t st s).toArray⟩) ∧ Ext w w' := by
  obtain ⟨h1, h2, h3, h4, h5⟩ := ho.nat
  have HT := Lib.hid hT
  have hpl := plcs_le a t st s
  have HOK := Lib.hid (plcs_ok a t st s)
  have HCOL := Lib.hid (plcs_col a t st s ho.book hz)
  have HBE := Lib.hid (plcs_beh a t st s)
  have HF := Lib.hid (show plainK a t st s = (plcs a t st s).flatMap (plB s) from rfl)
  obtain ⟨F, hF⟩ : ∃ F, plainK a t st s = F := ⟨_, rfl⟩
  rw [hF] at HF ⊢
  clear hF
  go_enter Tryz.func32, Tryz.ntmps32
  go_wp2_with fail
  have hbo := World.alloc_heap_new w (.cells #[.int .i64 (a : Nat), .int .i64 (t : Nat), .int .i64 (st : Nat)] 23)
  have hxo := (Ext.refl w).alloc (.cells #[.int .i64 (a : Nat), .int .i64 (t : Nat), .int .i64 (st : Nat)] 23)
  generalize w.alloc (.cells #[.int .i64 (a : Nat), .int .i64 (t : Nat), .int .i64 (st : Nat)] 23) = wo at hbo hxo ⊢
  generalize w.heap.size = ob at hbo ⊢
  refine (c_wCheck (a : Nat) (t : Nat) (st : Nat) _).mono ?_
  rintro e w1 ⟨rfl, hx1⟩
  rw [if_pos ho]
  have HBO := Lib.hid (hx1.blk hbo)
  have HX1 := Lib.hid (hxo.trans hx1)
  have o0 := (cell_blk HBO.out 0).trans rfl
  have o1 : w1.cell? ⟨ob, 1, none⟩ = some (.int .i64 (t : Nat)) := (cell_blk HBO.out 1).trans rfl
  have o2 : w1.cell? ⟨ob, 2, none⟩ = some (.int .i64 (st : Nat)) := (cell_blk HBO.out 2).trans rfl
  clear hbo hxo hx1
  go_wp2_with fail
  refine (c_wopen (a : Nat) (t : Nat) (st : Nat) w1 (HT.out.ext HX1.out)).mono ?_
  rintro e w2 ⟨bk, rfl, hbk, hx2⟩
  have HBK := Lib.hid hbk
  have HX2 := Lib.hid (HX1.out.trans hx2)
  have p2 := hx2.cell o2
  clear hbk hx2 o0 o1 o2
  have HP := Lib.hid (c_placesP bk a t st s w2 HBK.out h2 h3 h4 (by omega) (HT.out.ext HX2.out) hz)
  generalize plcs a t st s = P at hpl HOK HCOL HBE HF HP
  have hPI : ((P.length : Nat) : Int) ≤ 65537 := by omega
  go_wp2_with fail
  refine HP.out.mono ?_
  rintro e w3 ⟨v, rfl, hrow, hx⟩
  have HR := Lib.hid hrow
  have HX3 := Lib.hid (HX2.out.trans hx)
  obtain ⟨p, cap, rfl, hcap, _⟩ := hrow
  clear hx p2
  go_wp2_with fail
  obtain ⟨i0, hi0, hz0, hz1, hz3⟩ := info_parts Tryz.infoU8
  go_loopw [5, 7, 17] (fun bv _ iv W => ∃ (i : Nat) (v : Value), bv = v ∧ iv = .int .i64 (i : Nat) ∧ i ≤ P.length ∧ Hid (W.ownsRow w3.heap.size 5 1 v ((P.take i).flatMap (plB s)).length (Lib.byteCells ((P.take i).flatMap (plB s))) ∧ Ext w3 W)) (fun _ _ iv _ => P.length + 1 - (intOf iv).toNat)
  case atStart => exact ⟨0, _, rfl, rfl, Nat.zero_le _, Lib.hid ⟨by simpa [Lib.byteCells] using World.ownsRow_nil _ _ _ _, Ext.refl _⟩⟩
  case round =>
    obtain ⟨i, v, rfl, rfl, hi, HO⟩ := hrel
    obtain ⟨W, rfl⟩ : ∃ W, W = wr := ⟨_, rfl⟩
    by_cases hlt : i < P.length
    · have hI : ((i : Nat) : Int) < (P.length : Nat) := by omega
      have hd : decide (i < P.length) = true := decide_eq_true hlt
      obtain ⟨p', cap', e', _, hcc⟩ := HR.out.ext HO.out.2
      obtain ⟨rfl, -, rfl⟩ := Value.slice.inj e'
      obtain ⟨g, rfl, h6⟩ := hcc (by intro e; subst e; simp at hlt)
      obtain ⟨d0, d1, d2, d3⟩ := h6 i hlt
      have HO0 := Lib.hid (HOK.out i hlt)
      have HC := Lib.hid (HCOL.out i hlt)
      have HB1 := Lib.hid (HBE.out i hlt)
      have HLN := Lib.hid (show ((P.take i).flatMap (plB s)).length ≤ 65600 * 65537 by
        have h7 := flat_le (P.take i) (plB s) 65600 (fun q hq => by
          obtain ⟨j, hj, rfl⟩ := List.getElem_of_mem hq
          have hj2 : j < P.length := by rw [List.length_take] at hj; omega
          rw [List.getElem_take]
          have h8 := HOK.out j hj2
          have h9 := plB_le a t s h4 P[j] h8.1 h8.2 (HBE.out j hj2)
          omega)
        have h8 : (P.take i).length ≤ 65537 := by rw [List.length_take]; omega
        have := Nat.mul_le_mul_left 65600 h8
        omega)
      obtain ⟨G, hG⟩ : ∃ G, (P.take i).flatMap (plB s) = G := ⟨_, rfl⟩
      rw [hG] at HO HLN
      have HGE := Lib.hid hG
      obtain ⟨x, hx⟩ : ∃ x, P[i] = x := ⟨_, rfl⟩
      clear hG
      rw [hx] at d0 d1 d2 d3 HO0 HC HB1
      obtain ⟨xf, xt, xa, xb⟩ := x
      simp only at d0 d1 d2 d3 HO0 HC HB1
      have HXE := Lib.hid hx
      have hxl : xf < xt ∧ xt ≤ s.size := HO0.out
      have hx12 : ((xf : Nat) : Int) ≤ (xt : Nat) := by omega
      have hx12n : xf ≤ xt := by omega
      have hxt : ((xt : Nat) : Int) ≤ (s.size : Nat) := by omega
      have hxtn : xt ≤ s.size := hxl.2
      have hxf : ((xf : Nat) : Int) < (s.size : Nat) := by omega
      have hxfn : xf < s.size := by omega
      have hzI : ((s.size : Nat) : Int) ≤ 65536 := by omega
      have hcI : ((xa : Nat) : Int) ≤ 1090000000 ∧ ((xb : Nat) : Int) ≤ 1090000000 := by have := HC.out; omega
      obtain ⟨hcI1, hcI2⟩ := hcI
      obtain ⟨nb, hnb⟩ : ∃ b, (((s[xf]'hxfn).toNat : Int) == 9) = b := ⟨_, rfl⟩
      have HNB := Lib.hid (show nb = true ↔ (subS s (xf, xt)).headD 0 = 9 by
        rw [subS_head s xf xt hxl.1 hxl.2, ← hnb]
        simp
        constructor
        · intro h; exact UInt8.toNat_inj.1 (by have : (9 : UInt8).toNat = 9 := rfl; omega)
        · intro h; rw [h]; rfl)
      obtain ⟨pv, cv, rfl⟩ := own_slice HO.out.1
      clear h6 hcc e' hx hxl
      cases nb
      · go_wp2_with (at_builtin; refine Hid.out ?_)
        have HPB := Lib.hid (show plB s ⟨xf, xt, xa, xb⟩ = subS s (xf, xt) by
          unfold plB
          rw [if_neg (fun h => by have := HNB.out.2 h; cases this)])
        have HSL := Lib.hid (show (subS s (xf, xt)).length = (s.extract xf xt).size from len_eq _)
        have HSZ := Lib.hid (show (s.extract xf xt).size ≤ 65536 by simp; omega)
        have HO5 := Lib.hid (And.intro (ownsRow_ext HO.out.1 ((Ext.refl W).alloc (.cells #[.int .i64 (xf : Nat), .int .i64 (xt : Nat), .int .i64 (xa : Nat), .int .i64 (xb : Nat)] 70))) (show Ext w3 _ from HO.out.2.alloc (.cells #[.int .i64 (xf : Nat), .int .i64 (xt : Nat), .int .i64 (xa : Nat), .int .i64 (xb : Nat)] 70)))
        refine Lib.wpList_append_own_string _ rfl (.tmp 34) (.tmp 40) 88 9 rfl w3.heap.size 5 i0 Tryz.underlying88 Tryz.underlying9 hi0 hz0 hz1 hz3 (.slice pv G.length cv) G.length _ rfl HO5.out.1 (s.extract xf xt) rfl (by have := HLN.out; have := HSZ.out; unfold maxLen; omega) (by have := HLN.out; have := HSZ.out; omega) (Ext.sz HO5.out.2) ?_
        intro v' w6 hown6 hgrow6 _
        have HO6 := Lib.hid (And.intro hown6 (show Ext w3 w6 from Below.grown HO5.out.2 hgrow6 (Ext.sz HO5.out.2) (fun k e => (HO5.out.1.lt k e).1)))
        clear hown6 hgrow6
        go_wp2_with fail
        refine ⟨⟨i + 1, v', rfl, by simp, by omega, Lib.hid ⟨?_, HO6.out.2⟩⟩, by simp only [intOf]; omega⟩
        have h6 := HO6.out.1
        rw [List.take_succ_eq_append_getElem hlt, List.flatMap_append, HXE.out, List.length_append, HGE.out]
        rw [show [(⟨xf, xt, xa, xb⟩ : Plc)].flatMap (plB s) = plB s ⟨xf, xt, xa, xb⟩ by simp, HPB.out, HSL.out]
        simpa [Lib.byteCells, Lib.strCells_eq, subS] using h6
      · have h9 := HNB.out.1 rfl
        have hbt : xb = xa - xa % t + t := by
          have h7 : xb = bhK a t xa (subS s (xf, xt)) := HB1.out
          rw [h7, bhK_tab a t xa _ h9]
        have hml := Nat.mod_le xa t
        have hmt : xa % t < t := Nat.mod_lt _ (by omega)
        have HSUB := Lib.hid (show ((xb : Nat) : Int) - (xa : Nat) = ((xb - xa : Nat) : Int) by omega)
        have hk : xb - xa ≤ 64 := by omega
        have hkI : ((xa : Nat) : Int) ≤ (xb : Nat) := by omega
        have hwr : wrap64 (((xb : Nat) : Int) - (xa : Nat)) = ((xb : Nat) : Int) - (xa : Nat) := IntWalk.wrap64_in _ (by omega)
        have HPB := Lib.hid (show plB s ⟨xf, xt, xa, xb⟩ = List.replicate (xb - xa) 32 by
          unfold plB
          rw [if_pos h9])
        have HK := Lib.hid hk
        clear h9 hbt hml hmt hk
        go_wp2_with fail
        rw [HSUB.out]
        have HOA := Lib.hid (And.intro (ownsRow_ext HO.out.1 ((Ext.refl W).alloc (.cells #[.int .i64 (xf : Nat), .int .i64 (xt : Nat), .int .i64 (xa : Nat), .int .i64 (xb : Nat)] 70))) (show Ext w3 _ from HO.out.2.alloc (.cells #[.int .i64 (xf : Nat), .int .i64 (xt : Nat), .int .i64 (xa : Nat), .int .i64 (xb : Nat)] 70)))
        refine (Tryz.strings_Repeat ⟨#[32]⟩ (xb - xa) _ (by have := HK.out; omega) (by have := HK.out; show 1 * _ ≤ _; omega)).mono ?_
        rintro e w5 ⟨rfl, hx5⟩
        have HO5 := Lib.hid (And.intro (ownsRow_ext HOA.out.1 hx5) (Ext.trans HOA.out.2 hx5))
        obtain ⟨bl, hbl⟩ : ∃ b : ByteArray, (⟨(Lib.repeatL (⟨#[32]⟩ : ByteArray).data.toList (xb - xa)).toArray⟩ : ByteArray) = b := ⟨_, rfl⟩
        have HBL := Lib.hid (show bl.data.toList = List.replicate (xb - xa) 32 by
          rw [← hbl]
          show Lib.repeatL [32] (xb - xa) = _
          exact repeat_blank _)
        have HSL := Lib.hid (show (List.replicate (xb - xa) (32 : UInt8)).length = bl.size by rw [← HBL.out]; exact len_eq _)
        have HSZ := Lib.hid (show bl.size ≤ 65536 by rw [← HSL.out, List.length_replicate]; have := HK.out; omega)
        rw [hbl]
        clear hbl hx5
        go_wp2_with (at_builtin; refine Hid.out ?_)
        refine Lib.wpList_append_own_string _ rfl (.tmp 26) (.tmp 32) 88 9 rfl w3.heap.size 5 i0 Tryz.underlying88 Tryz.underlying9 hi0 hz0 hz1 hz3 (.slice pv G.length cv) G.length _ rfl HO5.out.1 bl rfl (by have := HLN.out; have := HSZ.out; unfold maxLen; omega) (by have := HLN.out; have := HSZ.out; omega) (Ext.sz HO5.out.2) ?_
        intro v' w6 hown6 hgrow6 _
        have HO6 := Lib.hid (And.intro hown6 (show Ext w3 w6 from Below.grown HO5.out.2 hgrow6 (Ext.sz HO5.out.2) (fun k e => (HO5.out.1.lt k e).1)))
        clear hown6 hgrow6
        go_wp2_with fail
        refine ⟨⟨i + 1, v', rfl, by simp, by omega, Lib.hid ⟨?_, HO6.out.2⟩⟩, by simp only [intOf]; omega⟩
        have h6 := HO6.out.1
        rw [List.take_succ_eq_append_getElem hlt, List.flatMap_append, HXE.out, List.length_append, HGE.out]
        rw [show [(⟨xf, xt, xa, xb⟩ : Plc)].flatMap (plB s) = plB s ⟨xf, xt, xa, xb⟩ by simp, HPB.out, HSL.out]
        rw [← HBL.out]
        simpa [Lib.byteCells, Lib.strCells_eq] using h6
    · have hI : ¬ ((i : Nat) : Int) < (P.length : Nat) := by omega
      have hd : decide (i < P.length) = false := decide_eq_false hlt
      have HFE := Lib.hid (show (P.take i).flatMap (plB s) = F by rw [HF.out, List.take_of_length_le (by omega)])
      obtain ⟨pv, cv, rfl⟩ := own_slice HO.out.1
      have hcv := conv_rowC HO.out.1 _ (EOn.refl _ _)
      rw [HFE.out] at hcv ⊢
      go_wp2_with fail
      exact ret_one rfl rfl rfl ⟨rfl, HX3.out.trans HO.out.2⟩
end Go.Proofs.YtafmhmcinhbpfaaGreatDoor
end

section
namespace Go.Proofs.YtafmhmcinhbpfaaGreatDoor
open Go.RowKit Go.Rp Go.Maps Go.Cl Go.Shelf Go.Gr

noncomputable def hitGo (s : ByteArray) (column : Int) : List Plc → Nat → Nat → Nat → Nat
  | [], x, b, e => if ((b : Nat) : Int) ≤ column then e else x
  | p :: ps, x, b, e => if enT (subS s (p.f, p.t)) = true then (if ((b : Nat) : Int) ≤ column then e else x) else hitGo s column ps (if ((p.a : Nat) : Int) ≤ column then p.f else x) p.b p.t
noncomputable def hitK (a t st : Nat) (s : ByteArray) (column : Int) : Nat := if column < (st : Nat) then 0 else hitGo s column (plcs a t st s) 0 st 0
set_option maxRecDepth 100000 in
set_option maxHeartbeats 4000000 in
theorem c_wHit (a t st : Nat) (s : ByteArray) (column : Int) (w : World) (ho : CellOk a t st) (hT : TabsW w) (hz : s.size ≤ 65536) :
    Calls Tryz.prog 34 #[.string s, .int .i64 column, .agg #[.int .i64 (a : Nat), .int .i64 (t : Nat), .int .i64 (st : Nat)]] w fun e w' => e = .returned (.int .i64 (hitK a t st s column : Nat)) ∧ Ext w w' := by
  obtain ⟨h1, h2, h3, h4, h5⟩ := ho.nat
  have HT := Lib.hid hT
  have hpl := plcs_le a t st s
  have HOK := Lib.hid (plcs_ok a t st s)
  have HCOL := Lib.hid (plcs_col a t st s ho.book hz)
  obtain ⟨F, hF⟩ : ∃ F, hitK a t st s column = F := ⟨_, rfl⟩
  have HF := Lib.hid hF
  rw [hF]
  clear hF
  go_enter Tryz.func34, Tryz.ntmps34
  go_wp2_with fail
  have hbo := World.alloc_heap_new w (.cells #[.int .i64 (a : Nat), .int .i64 (t : Nat), .int .i64 (st : Nat)] 23)
  have hxo := (Ext.refl w).alloc (.cells #[.int .i64 (a : Nat), .int .i64 (t : Nat), .int .i64 (st : Nat)] 23)
  generalize w.alloc (.cells #[.int .i64 (a : Nat), .int .i64 (t : Nat), .int .i64 (st : Nat)] 23) = wo at hbo hxo ⊢
  generalize w.heap.size = ob at hbo ⊢
  refine (c_wCheck (a : Nat) (t : Nat) (st : Nat) _).mono ?_
  rintro e w1 ⟨rfl, hx1⟩
  rw [if_pos ho]
  have HBO := Lib.hid (hx1.blk hbo)
  have HX1 := Lib.hid (hxo.trans hx1)
  have o0 := (cell_blk HBO.out 0).trans rfl
  have o1 : w1.cell? ⟨ob, 1, none⟩ = some (.int .i64 (t : Nat)) := (cell_blk HBO.out 1).trans rfl
  have o2 : w1.cell? ⟨ob, 2, none⟩ = some (.int .i64 (st : Nat)) := (cell_blk HBO.out 2).trans rfl
  clear hbo hxo hx1
  by_cases hlt : column < (st : Nat)
  · have HV := Lib.hid (show F = 0 by rw [← HF.out]; unfold hitK; rw [if_pos hlt])
    go_wp2_with fail
    exact ret_one rfl rfl rfl ⟨by rw [HV.out]; rfl, HX1.out⟩
  · have HV := Lib.hid (show hitGo s column (plcs a t st s) 0 st 0 = F by rw [← HF.out]; unfold hitK; rw [if_neg hlt])
    go_wp2_with fail
    have s2 : ∀ w', EOn (fun _ => True) w1 w' → w'.cell? ⟨ob, 2, none⟩ = some (.int .i64 (st : Nat)) := fun w' h => h.cell trivial o2
    refine wp_lex (fun _ => True) [true, true, true, true, true] (by kernel_rfl) (by kernel_rfl) ?_
    repeat first
      | refine wpG_move' ?_
      | refine wpG_assign' ?_
      | refine wpG_val' ?_
      | refine wpG_no' ?_
    refine wpG_end (fun wa hxa => ?_)
    have HXA := Lib.hid (HX1.out.trans hxa)
    have p0 : wa.cell? ⟨ob, 0, none⟩ = some (.int .i64 (a : Nat)) := hxa.cell o0
    have p1 := hxa.cell o1
    have p2 := hxa.cell o2
    clear hxa s2 o0 o1 o2
    go_wp2_with fail
    refine gQ_normal ?_
    go_wp2_with fail
    refine (c_wopen (a : Nat) (t : Nat) (st : Nat) wa (HT.out.ext HXA.out)).mono ?_
    rintro e w2 ⟨bk, rfl, hbk, hx2⟩
    have HBK := Lib.hid hbk
    have HX2 := Lib.hid (HXA.out.trans hx2)
    clear hbk hx2 p0 p1 p2
    have HP := Lib.hid (c_placesP bk a t st s w2 HBK.out h2 h3 h4 (by omega) (HT.out.ext HX2.out) hz)
    generalize plcs a t st s = P at hpl HOK HCOL HV HP
    have hPI : ((P.length : Nat) : Int) ≤ 65537 := by omega
    go_wp2_with fail
    refine HP.out.mono ?_
    rintro e w3 ⟨v, rfl, hrow, hx⟩
    have HR := Lib.hid hrow
    have HX3 := Lib.hid (HX2.out.trans hx)
    obtain ⟨p, cap, rfl, hcap, _⟩ := hrow
    clear hx
    go_wp2_with fail
    go_loopw [7, 8, 9, 11, 28] (fun av bv ev _ iv W => ∃ i x b e : Nat, av = .int .i64 (x : Nat) ∧ bv = .int .i64 (b : Nat) ∧ ev = .int .i64 (e : Nat) ∧ iv = .int .i64 (i : Nat) ∧ i ≤ P.length ∧ b ≤ 1090000000 ∧ e ≤ 65536 ∧ x ≤ 65536 ∧ Hid (hitGo s column (P.drop i) x b e = F) ∧ Hid (Ext w3 W)) (fun _ _ _ _ iv _ => P.length + 1 - (intOf iv).toNat)
    case atStart => exact ⟨0, 0, st, 0, rfl, rfl, rfl, rfl, Nat.zero_le _, by omega, Nat.zero_le _, Nat.zero_le _, HV, Lib.hid (Ext.refl _)⟩
    case round =>
      obtain ⟨i, x, b, e, rfl, rfl, rfl, rfl, hi, hb9, he9, hx9, HH, HXW⟩ := hrel
      obtain ⟨W, rfl⟩ : ∃ W, W = wr := ⟨_, rfl⟩
      by_cases hil : i < P.length
      · have hI : ((i : Nat) : Int) < (P.length : Nat) := by omega
        have hd : decide (i < P.length) = true := decide_eq_true hil
        obtain ⟨p', cap', e', _, hcc⟩ := HR.out.ext HXW.out
        obtain ⟨rfl, -, rfl⟩ := Value.slice.inj e'
        obtain ⟨g, rfl, h6⟩ := hcc (by intro e; subst e; simp at hil)
        obtain ⟨d0, d1, d2, d3⟩ := h6 i hil
        have HO0 := Lib.hid (HOK.out i hil)
        have HC := Lib.hid (HCOL.out i hil)
        have hst := HH.out
        rw [List.drop_eq_getElem_cons hil, hitGo] at hst
        obtain ⟨y, hy⟩ : ∃ y, P[i] = y := ⟨_, rfl⟩
        rw [hy] at d0 d1 d2 d3 HO0 HC hst
        obtain ⟨xf, xt, xa, xb⟩ := y
        simp only at d0 d1 d2 d3 HO0 HC hst
        have HST := Lib.hid hst
        have hxl : xf < xt ∧ xt ≤ s.size := HO0.out
        have hx12 : ((xf : Nat) : Int) ≤ (xt : Nat) := by omega
        have hx12n : xf ≤ xt := by omega
        have hxt : ((xt : Nat) : Int) ≤ (s.size : Nat) := by omega
        have hxtn : xt ≤ s.size := hxl.2
        have hzI : ((s.size : Nat) : Int) ≤ 65536 := by omega
        have hne : (s.extract xf xt).size ≠ 0 := by simp; omega
        clear h6 hcc e' hst hxl hy
        go_wp2_with fail
        have hb := World.alloc_heap_new W (.cells #[.int .i64 (xf : Nat), .int .i64 (xt : Nat), .int .i64 (xa : Nat), .int .i64 (xb : Nat)] 70)
        have hx2 := HXW.out.alloc (.cells #[.int .i64 (xf : Nat), .int .i64 (xt : Nat), .int .i64 (xa : Nat), .int .i64 (xb : Nat)] 70)
        generalize W.alloc (.cells #[.int .i64 (xf : Nat), .int .i64 (xt : Nat), .int .i64 (xa : Nat), .int .i64 (xb : Nat)] 70) = W2 at hb hx2 ⊢
        generalize W.heap.size = xbk at hb ⊢
        refine (c_wends (s.extract xf xt) W2 (HT.out.ext (HX3.out.trans hx2)) hne).mono ?_
        rintro e5 W3 ⟨rfl, hx3⟩
        have k0 : W3.cell? ⟨xbk, 0, none⟩ = some (.int .i64 (xf : Nat)) := (cell_blk (hx3.blk hb) 0).trans rfl
        have k1 : W3.cell? ⟨xbk, 1, none⟩ = some (.int .i64 (xt : Nat)) := (cell_blk (hx3.blk hb) 1).trans rfl
        have k2 : W3.cell? ⟨xbk, 2, none⟩ = some (.int .i64 (xa : Nat)) := (cell_blk (hx3.blk hb) 2).trans rfl
        have k3 : W3.cell? ⟨xbk, 3, none⟩ = some (.int .i64 (xb : Nat)) := (cell_blk (hx3.blk hb) 3).trans rfl
        have HX5 := Lib.hid (hx2.trans hx3)
        obtain ⟨en, hen⟩ : ∃ q, enT (s.extract xf xt).data.toList = q := ⟨_, rfl⟩
        have HST2 := Lib.hid (show (if en = true then (if ((b : Nat) : Int) ≤ column then e else x) else hitGo s column (P.drop (i + 1)) (if ((xa : Nat) : Int) ≤ column then xf else x) xb xt) = F by
          rw [← HST.out, ← hen]
          rfl)
        rw [hen]
        clear hb hx2 hx3 hen hne
        cases en
        · by_cases hac : ((xa : Nat) : Int) ≤ column
          · have HFE := Lib.hid (show hitGo s column (P.drop (i + 1)) xf xb xt = F by rw [← HST2.out, if_neg (by simp), if_pos hac])
            have s1 : ∀ w', EOn (fun _ => True) W3 w' → w'.cell? ⟨xbk, 1, none⟩ = some (.int .i64 (xt : Nat)) := fun w' h => h.cell trivial k1
            have s3 : ∀ w', EOn (fun _ => True) W3 w' → w'.cell? ⟨xbk, 3, none⟩ = some (.int .i64 (xb : Nat)) := fun w' h => h.cell trivial k3
            go_wp2_with fail
            refine wp_lex (fun _ => True) [true, true, true, true, true, true] (by kernel_rfl) (by kernel_rfl) ?_
            repeat first
              | refine wpG_move' ?_
              | refine wpG_assign' ?_
              | refine wpG_val' ?_
              | refine wpG_no' ?_
            refine wpG_end (fun w6 hx6 => ?_)
            have HX6 := Lib.hid (HX5.out.trans hx6)
            clear hx6 s1 s3
            go_wp2_with fail
            refine gQ_normal ?_
            go_wp2_with fail
            exact ⟨⟨i + 1, xf, xb, xt, rfl, rfl, rfl, by simp, by omega, HC.out.2, by omega, by omega, HFE, HX6⟩, by simp only [intOf]; omega⟩
          · have HFE := Lib.hid (show hitGo s column (P.drop (i + 1)) x xb xt = F by rw [← HST2.out, if_neg (by simp), if_neg hac])
            have s1 : ∀ w', EOn (fun _ => True) W3 w' → w'.cell? ⟨xbk, 1, none⟩ = some (.int .i64 (xt : Nat)) := fun w' h => h.cell trivial k1
            have s3 : ∀ w', EOn (fun _ => True) W3 w' → w'.cell? ⟨xbk, 3, none⟩ = some (.int .i64 (xb : Nat)) := fun w' h => h.cell trivial k3
            go_wp2_with fail
            refine wp_lex (fun _ => True) [true, true, true, true, true, true] (by kernel_rfl) (by kernel_rfl) ?_
            repeat first
              | refine wpG_move' ?_
              | refine wpG_assign' ?_
              | refine wpG_val' ?_
              | refine wpG_no' ?_
            refine wpG_end (fun w6 hx6 => ?_)
            have HX6 := Lib.hid (HX5.out.trans hx6)
            clear hx6 s1 s3
            go_wp2_with fail
            refine gQ_normal ?_
            go_wp2_with fail
            exact ⟨⟨i + 1, x, xb, xt, rfl, rfl, rfl, by simp, by omega, HC.out.2, by omega, by omega, HFE, HX6⟩, by simp only [intOf]; omega⟩
        · by_cases hbc : ((b : Nat) : Int) ≤ column
          · have HFE := Lib.hid (show F = e by rw [← HST2.out, if_pos rfl, if_pos hbc])
            go_wp2_with fail
            exact ret_one rfl rfl rfl ⟨by rw [HFE.out]; rfl, HX3.out.trans HX5.out⟩
          · have HFE := Lib.hid (show F = x by rw [← HST2.out, if_pos rfl, if_neg hbc])
            go_wp2_with fail
            exact ret_one rfl rfl rfl ⟨by rw [HFE.out]; rfl, HX3.out.trans HX5.out⟩
      · have hI : ¬ ((i : Nat) : Int) < (P.length : Nat) := by omega
        have hd : decide (i < P.length) = false := decide_eq_false hil
        have HST2 := Lib.hid (show (if ((b : Nat) : Int) ≤ column then e else x) = F by
          rw [← HH.out, List.drop_of_length_le (by omega), hitGo])
        by_cases hbc : ((b : Nat) : Int) ≤ column
        · have HFE := Lib.hid (show F = e by rw [← HST2.out, if_pos hbc])
          go_wp2_with fail
          exact ret_one rfl rfl rfl ⟨by rw [HFE.out]; rfl, HX3.out.trans HXW.out⟩
        · have HFE := Lib.hid (show F = x by rw [← HST2.out, if_neg hbc])
          go_wp2_with fail
          exact ret_one rfl rfl rfl ⟨by rw [HFE.out]; rfl, HX3.out.trans HXW.out⟩
end Go.Proofs.YtafmhmcinhbpfaaGreatDoor
end
