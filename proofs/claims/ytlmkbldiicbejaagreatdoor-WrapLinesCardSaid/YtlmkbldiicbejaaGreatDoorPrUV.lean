/-
  All ranges in order. The end of a database: all ranges in order.
-/
import Derived.Test.YtlmkbldiicbejaaGreatDoorPrT
section
namespace Go.Proofs.YtlmkbldiicbejaaGreatDoor
open Go.RowKit Go.Rp Go.Maps Go.Cl Go.Shelf

/-- A row of ranges with classes. -/
def RdRow (w : World) (v : Value) (l : List (Nat × Nat × Nat)) : Prop :=
  ∃ p cap, v = .slice p l.length cap ∧ l.length ≤ cap ∧ (l ≠ [] → ∃ g, p = some ⟨g, 0, none⟩ ∧ ∀ i (h : i < l.length), w.cell? ⟨g, i * 3, none⟩ = some (.int .i32 (l[i].1 : Nat)) ∧ w.cell? ⟨g, i * 3 + 1, none⟩ = some (.int .i32 (l[i].2.1 : Nat)) ∧ w.cell? ⟨g, i * 3 + 2, none⟩ = some (.int .i64 (l[i].2.2 : Nat)))
theorem RdRow.ext {w w' : World} {v : Value} {l : List (Nat × Nat × Nat)} (h : RdRow w v l) (hx : Ext w w') : RdRow w' v l := by
  obtain ⟨p, cap, e, hc, h2⟩ := h
  exact ⟨p, cap, e, hc, fun hne => by
    obtain ⟨g, rfl, h3⟩ := h2 hne
    exact ⟨g, rfl, fun i hi => ⟨hx.cell (h3 i hi).1, hx.cell (h3 i hi).2.1, hx.cell (h3 i hi).2.2⟩⟩⟩
theorem rdW_len (l : List (Nat × Nat × Nat)) : (rdW l).length = l.length * 3 := by
  induction l with
  | nil => rfl
  | cons x l ih =>
    show (rdW l).length + 1 + 1 + 1 = _
    rw [ih, List.length_cons]
    omega
theorem rdW_app (a b : List (Nat × Nat × Nat)) : rdW (a ++ b) = rdW a ++ rdW b := by simp [rdW, List.flatMap_append]
theorem Tryz.infoRd : (Tryz.prog.info? 123).map (fun i => (i.zero, i.size, i.bytes)) = some (some (.agg #[.int .i32 0, .int .i32 0, .int .i64 0]), 3, 16) := by kernel_rfl
/-- Ranges with classes put in order. -/
theorem c_SortDD (B : Nat) (pa : Option Addr) (ca : Nat) (l : List (Nat × Nat × Nat)) (W : World) (h : W.ownsRow B 123 3 (.slice pa l.length ca) l.length (rdW l)) (hl : l.length ≤ 10000) (hn : (l.map fun x => x.1).Nodup) (hb : ∀ x ∈ l, x.1 ≤ 1114111) :
    Calls Tryz.prog 77 #[.slice pa l.length ca, .func (.func 78) #[] #[]] W fun e w' => e = .returned (.tuple #[]) ∧ RdRow w' (.slice pa l.length ca) (srtK (fun x => x.1) l) ∧ W.grownBy w' (Value.slice pa l.length ca).ownBlock := by
  have hcap := own_cap h
  by_cases h0 : l = []
  · subst h0
    refine (AnyF.slices_SortFunc_none Tryz.sortD pa ca (.func (.func 78) #[] #[]) W).mono ?_
    rintro e w' ⟨rfl, rfl⟩
    exact ⟨rfl, ⟨pa, ca, rfl, Nat.zero_le _, fun h => absurd rfl h⟩, World.grownBy.refl _ _⟩
  · have hp := List.length_pos_iff.2 h0
    obtain ⟨g, rfl, _, _, _⟩ := own_at h hp
    refine (c_SortD B g ca l W h (by omega) hn hb).mono ?_
    rintro e w' ⟨rfl, hg, hc⟩
    refine ⟨rfl, ⟨_, ca, by rw [srtK_len], by rw [srtK_len]; exact hcap, fun _ => ⟨g, rfl, fun i hi => ?_⟩⟩, hg⟩
    exact ⟨hc i hi 0 (by decide), hc i hi 1 (by decide), hc i hi 2 (by decide)⟩
/-- The ranges of sets, with their classes from a number on. -/
theorem withC_take (S : List (List (Nat × Nat))) (c i : Nat) (h : i < S.length) : withC c (S.take (i + 1)) = withC c (S.take i) ++ (S[i]).map (fun x => (x.1, x.2, c + i)) := by
  rw [List.take_succ_eq_append_getElem h, withC_app, List.length_take, Nat.min_eq_left (Nat.le_of_lt h), withC, withC, List.append_nil]
theorem withC_len : ∀ (S : List (List (Nat × Nat))) (c : Nat), (withC c S).length = S.flatten.length
  | [], _ => rfl
  | s :: S, c => by rw [withC, List.length_append, List.length_map, withC_len S (c + 1), List.flatten_cons, List.length_append]
theorem withC_fst : ∀ (S : List (List (Nat × Nat))) (c : Nat), (withC c S).map (fun x => x.1) = S.flatten.map (fun x => x.1)
  | [], _ => rfl
  | s :: S, c => by rw [withC, List.map_append, withC_fst S (c + 1), List.flatten_cons, List.map_append, List.map_map]; rfl
theorem withC_mem : ∀ (S : List (List (Nat × Nat))) (c : Nat) (x : Nat × Nat × Nat), x ∈ withC c S → (x.1, x.2.1) ∈ S.flatten
  | [], _, x, h => by cases h
  | s :: S, c, x, h => by
    rw [withC] at h
    rw [List.flatten_cons, List.mem_append]
    rcases List.mem_append.1 h with h | h
    · obtain ⟨y, hy, rfl⟩ := List.mem_map.1 h
      exact .inl hy
    · exact .inr (withC_mem S (c + 1) x h)
/-- A database while its ranges are put together. -/
structure ClSt (W1 W : World) (db : Nat) (nv sv : Value) (mb : Nat) (rv av : Value) (D : List (Nat × Nat × Nat)) (A : List (Nat × Nat)) : Prop where
  d : W.heap[db]? = some (.cells #[nv, .map (some mb), sv, rv] 104 (0, 0))
  g : W1.grownBy W (some db)
  r : W.ownsRow W1.heap.size 123 3 rv D.length (rdW D)
  a : W.ownsRow W1.heap.size 139 2 av A.length (rgW A)
  b : db < W1.heap.size
section
variable {W1 W W' : World} {db mb : Nat} {nv sv rv av rv' av' : Value} {D D' : List (Nat × Nat × Nat)} {A A' : List (Nat × Nat)}
theorem ClSt.ext (h : ClSt W1 W db nv sv mb rv av D A) (hx : Ext W W') : ClSt W1 W' db nv sv mb rv av D A :=
  ⟨hx.blk h.d, h.g.trans (grown_ext hx _), ownsRow_ext h.r hx, ownsRow_ext h.a hx, h.b⟩
theorem ClSt.low (h : ClSt W1 W db nv sv mb rv av D A) {b : Nat} {o : Obj} (hb : W1.heap[b]? = some o) (hne : b ≠ db) : W.heap[b]? = some o :=
  (h.g.block b (blk_lt hb) (fun e => hne (Option.some.inj e))).trans hb
theorem ClSt.ranged (h : ClSt W1 W db nv sv mb rv av D A) (hg : W.grownBy W' rv.ownBlock) (hr : W'.ownsRow W1.heap.size 123 3 rv' D'.length (rdW D')) : ClSt W1 (W'.setCell ⟨db, 3, none⟩ rv') db nv sv mb rv' av D' A := by
  have n1 : rv.ownBlock ≠ some db := fun e => by have := (h.r.lt db e).1; have := h.b; omega
  have n2 : rv'.ownBlock ≠ some db := fun e => by have := (hr.lt db e).1; have := h.b; omega
  have n3 : av.ownBlock ≠ some db := fun e => by have := (h.a.lt db e).1; have := h.b; omega
  have hd : W'.heap[db]? = _ := (hg.block db (blk_lt h.d) (fun e => n1 e.symm)).trans h.d
  have ha := h.a.kept hg (own_ne h.a h.r (by decide))
  have g2 := grown_cell W' db 3 rv'
  exact ⟨set_blk hd 3 rv', (h.g.andThen hg (fun j e => .inl (h.r.lt j e).1)).trans g2, hr.kept g2 (.inr n2), ha.kept g2 (.inr n3), h.b⟩
theorem ClSt.all (h : ClSt W1 W db nv sv mb rv av D A) (hg : W.grownBy W' av.ownBlock) (ha : W'.ownsRow W1.heap.size 139 2 av' A'.length (rgW A')) : ClSt W1 W' db nv sv mb rv av' D A' := by
  have n3 : av.ownBlock ≠ some db := fun e => by have := (h.a.lt db e).1; have := h.b; omega
  exact ⟨(hg.block db (blk_lt h.d) (fun e => n3 e.symm)).trans h.d, h.g.andThen hg (fun j e => .inl (h.a.lt j e).1), h.r.kept hg (own_ne h.r h.a (by decide)), ha, h.b⟩
end
end Go.Proofs.YtlmkbldiicbejaaGreatDoor
end

section
namespace Go.Proofs.YtlmkbldiicbejaaGreatDoor
open Go.RowKit Go.Rp Go.Maps Go.Cl Go.Shelf

theorem RdRow.but {W W' : World} {v : Value} {l : List (Nat × Nat × Nat)} {r : Nat} (h : RdRow W v l) (hg : W.grownBy W' (some r)) (hne : ∀ g, v.ownBlock = some g → g ≠ r) : RdRow W' v l := by
  obtain ⟨p, cap, e, hc, h2⟩ := h
  exact ⟨p, cap, e, hc, fun hn => by
    obtain ⟨g, rfl, h3⟩ := h2 hn
    have hgr : ∀ j, (some (⟨g, j, none⟩ : Addr).block) ≠ some r := fun j e2 => hne g (by rw [e]; rfl) (Option.some.inj e2)
    exact ⟨g, rfl, fun i hi => ⟨(hg.cell_far _ (cell_lt (h3 i hi).1) (hgr _)).trans (h3 i hi).1, (hg.cell_far _ (cell_lt (h3 i hi).2.1) (hgr _)).trans (h3 i hi).2.1, (hg.cell_far _ (cell_lt (h3 i hi).2.2) (hgr _)).trans (h3 i hi).2.2⟩⟩⟩
/-- A database: its names, its ranges in order. -/
structure DbIs (W : World) (db : Nat) (N : List (List UInt8)) (D : List (Nat × Nat × Nat)) : Prop where
  ex : ∃ nv mb sv rv, W.heap[db]? = some (.cells #[nv, .map (some mb), sv, rv] 104 (0, 0)) ∧ (∃ B, W.ownsRow B 9 1 nv N.length (strW N)) ∧ MapIs W mb (nameKV 0 N) ∧ RdRow W rv D
  w : ∀ x ∈ N, x.length ≤ 32
theorem DbIs.ext {W W' : World} {db : Nat} {N : List (List UInt8)} {D : List (Nat × Nat × Nat)} (h : DbIs W db N D) (hx : Ext W W') : DbIs W' db N D := by
  obtain ⟨nv, mb, sv, rv, a, ⟨B, b⟩, c, d⟩ := h.ex
  exact ⟨⟨nv, mb, sv, rv, hx.blk a, ⟨B, ownsRow_ext b hx⟩, c.ext hx, d.ext hx⟩, h.w⟩
set_option maxRecDepth 100000 in
set_option maxHeartbeats 8000000 in
theorem c_close {B : Nat} {db mb : Nat} {nv sv : Value} {N : List (List UInt8)} {S : List (List (Nat × Nat))} (w : World) (h : DbSt B w db mb nv sv N ([] :: S)) (hok : RgsOk S.flatten) (hlS : S.length ≤ 60) (hS1 : 1 ≤ S.length) :
    Calls Tryz.prog 57 #[.pointer (some ⟨db, 0, none⟩)] w fun e w' => e = .returned (.tuple #[]) ∧ DbIs w' db N (srtK (fun x => x.1) (withC 1 S)) ∧ (B ≤ w.heap.size → Below B w w') := by
  have d0 := (cell_blk h.d 2).trans rfl
  obtain ⟨vs, hvs, hvh⟩ := h.s
  obtain ⟨ps, cs, rfl⟩ := own_slice hvs
  obtain ⟨gs, rfl, hgs1, hgs2, hgc⟩ := own_at hvs (by simp)
  have HV := Lib.hid (And.intro hvs (And.intro hvh hgc))
  have HD := Lib.hid h
  have HOK := Lib.hid hok
  have hSI : ((S.length : Nat) : Int) ≤ 60 := by omega
  have hcs : ¬ cs = 1 := by have := own_cap hvs; simp only [List.length_cons] at this; omega
  clear hok hvs hvh hgc
  go_enter Tryz.func57, Tryz.ntmps57
  go_wp2_with fail
  obtain ⟨w1, rfl⟩ : ∃ w1, w1 = w := ⟨_, rfl⟩
  have HC0 := Lib.hid (show ClSt w1 w1 db nv (.slice (some ⟨gs, 0, none⟩) (S.length + 1) cs) mb (.slice none 0 0) (.slice none 0 0) [] [] from ⟨by have := HD.out.d; simp only [List.length_cons] at this; exact this, World.grownBy.refl _ _, World.ownsRow_nil _ _ _ _, World.ownsRow_nil _ _ _ _, blk_lt HD.out.d⟩)
  go_loopw [2, 13] (fun av iv W => ∃ (i : Nat) (rv : Value), iv = .int .i64 (i : Nat) ∧ i ≤ S.length ∧ Hid (ClSt w1 W db nv (.slice (some ⟨gs, 0, none⟩) (S.length + 1) cs) mb rv av (withC 1 (S.take i)) (S.take i).flatten)) (fun _ iv _ => S.length + 1 - (intOf iv).toNat)
  case atStart => exact ⟨0, _, rfl, Nat.zero_le _, HC0⟩
  case round =>
    obtain ⟨i, rv, rfl, hi, HC⟩ := hrel
    obtain ⟨W, rfl⟩ : ∃ W, W = wr := ⟨_, rfl⟩
    by_cases hlt : i < S.length
    · have hI : ((i : Nat) : Int) < (S.length : Nat) := by omega
      have hd : decide (i < S.length) = true := decide_eq_true hlt
      have hvl := HV.out.1.1
      simp only [List.length_cons, Nat.mul_one] at hvl
      have hiv : i + 1 < vs.length := by omega
      have hc := HV.out.2.2 (i + 1) (by simp only [List.length_cons]; omega)
      rw [List.getElem?_eq_getElem hiv] at hc
      have hr := HV.out.2.1 (i + 1) _ _ (List.getElem?_eq_getElem hiv) (by rw [List.getElem?_cons_succ, List.getElem?_eq_getElem hlt])
      obtain ⟨z, hz⟩ : ∃ z, S[i] = z := ⟨_, rfl⟩
      have hTK := withC_take S 1 i hlt
      have hFL : (S.take (i + 1)).flatten = (S.take i).flatten ++ z := by rw [List.take_succ_eq_append_getElem hlt, List.flatten_append, hz]; simp
      rw [hz] at hTK hr
      have hzok : (∀ x ∈ z, RgOk x) ∧ z.length ≤ 10000 ∧ (S.take i).flatten.length ≤ 10000 := by
        have h1 : S.flatten = (S.take i).flatten ++ (z ++ (S.drop (i + 1)).flatten) := by
          rw [← hz, ← List.flatten_cons, ← List.drop_eq_getElem_cons hlt, ← List.flatten_append, List.take_append_drop]
        have h2 := HOK.out
        rw [h1] at h2
        have h3 := h2.len
        simp only [List.length_append] at h3
        exact ⟨fun x hx => h2.ok x (List.mem_append_right _ (List.mem_append_left _ hx)), by omega, by omega⟩
      have HZ := Lib.hid (And.intro hzok (And.intro hTK hFL))
      generalize vs[i + 1] = u at hc hr
      have hne : (i + 1) * 1 = i + 1 := Nat.mul_one _
      have c0 : W.cell? ⟨gs, 1 + i, none⟩ = some u := by
        have hgd : gs ≠ db := fun e => by
          obtain ⟨cur, hcur⟩ := own_cells HV.out.1 (j := gs) rfl
          rw [e, HD.out.d] at hcur
          cases hcur
        obtain ⟨cur, hcur⟩ := own_cells HV.out.1 (j := gs) rfl
        rw [cell_blk (HC.out.low hcur hgd), Nat.add_comm 1 i, ← cell_blk hcur]
        exact hc
      have HR := Lib.hid (hr.but HC.out.g (fun c cs fz hc e => by rw [Option.some.inj e, HD.out.d] at hc; cases hc))
      obtain ⟨pz, cz, rfl, _, _, _⟩ := hr
      have hzI : ((z.length : Nat) : Int) ≤ 10000 := by have := hzok.2.1; omega
      clear hc hz hTK hFL hzok hvl hiv hne
      go_wp2_with fail
      obtain ⟨Wi, rfl⟩ : ∃ Wi, Wi = W := ⟨_, rfl⟩
      go_loopw [6, 20] (fun xv jv W => ∃ (j : Nat) (rv : Value), jv = .int .i64 (j : Nat) ∧ j ≤ z.length ∧ Hid (ClSt w1 W db nv (.slice (some ⟨gs, 0, none⟩) (S.length + 1) cs) mb rv u2 (withC 1 (S.take i) ++ (z.take j).map (fun x => (x.1, x.2, 1 + i))) (S.take i).flatten) ∧ Hid (RHold W (.slice pz z.length cz) z)) (fun _ jv _ => z.length + 1 - (intOf jv).toNat)
      case atStart => exact ⟨0, rv, rfl, Nat.zero_le _, Lib.hid (by rw [List.take_zero, List.map_nil, List.append_nil]; exact HC.out), HR⟩
      case round =>
        obtain ⟨j, rq, rfl, hj, HQ, HRJ⟩ := hrel
        obtain ⟨W, rfl⟩ : ∃ W, W = wr := ⟨_, rfl⟩
        by_cases hjl : j < z.length
        · have hJ : ((j : Nat) : Int) < (z.length : Nat) := by omega
          have hdj : decide (j < z.length) = true := decide_eq_true hjl
          obtain ⟨p9, c9, e9, _, h9⟩ := HRJ.out.row
          obtain ⟨rfl, _, rfl⟩ := Value.slice.inj e9
          obtain ⟨g, off, rfl, hcel⟩ := h9 (by intro e; subst e; simp at hjl)
          obtain ⟨k0, k1⟩ := hcel j hjl
          have hTJ : (z.take (j + 1)).map (fun x => (x.1, x.2, 1 + i)) = (z.take j).map (fun x => (x.1, x.2, 1 + i)) ++ [(z[j].1, z[j].2, 1 + i)] := by rw [List.take_succ_eq_append_getElem hjl, List.map_append]; rfl
          obtain ⟨x, hx⟩ : ∃ x, z[j] = x := ⟨_, rfl⟩
          obtain ⟨a, b⟩ := x
          rw [hx] at k0 k1 hTJ
          simp only at k0 k1 hTJ
          have HTJ := Lib.hid hTJ
          obtain ⟨pq, cq, rfl⟩ := own_slice HQ.out.r
          clear hcel hx hTJ e9 h9
          have e3 := (cell_blk HQ.out.d 3).trans rfl
          go_wp2_with fail
          have hxb := (Ext.refl W).alloc (.cells #[.int .i32 (a : Nat), .int .i32 (b : Nat)] 139)
          have hbn := World.alloc_heap_new W (.cells #[.int .i32 (a : Nat), .int .i32 (b : Nat)] 139)
          have HQ1 := Lib.hid (HQ.out.ext hxb)
          have HR1 := Lib.hid (HRJ.out.ext hxb)
          generalize W.alloc (.cells #[.int .i32 (a : Nat), .int .i32 (b : Nat)] 139) = Wb at hxb hbn HQ1 HR1 ⊢
          obtain ⟨xb, hxe⟩ : ∃ xb, W.heap.size = xb := ⟨_, rfl⟩
          rw [hxe] at hbn
          simp only [hxe]
          have hxq : some xb ≠ (Value.slice pq (withC 1 (S.take i) ++ (z.take j).map (fun x => (x.1, x.2, 1 + i))).length cq).ownBlock := fun e => by
            have := (HQ.out.r.lt xb e.symm).2
            omega
          have hdq : some db ≠ (Value.slice pq (withC 1 (S.take i) ++ (z.take j).map (fun x => (x.1, x.2, 1 + i))).length cq).ownBlock := fun e => by
            have h1 := (HQ.out.r.lt db e.symm).1
            have h2 := HQ.out.b
            omega
          clear hxe hxb k0 k1 e3
          have s0 : ∀ w', EOn (fun ad => some ad.block ≠ (Value.slice pq (withC 1 (S.take i) ++ (z.take j).map (fun x => (x.1, x.2, 1 + i))).length cq).ownBlock) Wb w' → w'.cell? ⟨xb, 0, none⟩ = some (.int .i32 (a : Nat)) := fun w' hx => hx.cell hxq ((cell_blk hbn 0).trans rfl)
          have s1 : ∀ w', EOn (fun ad => some ad.block ≠ (Value.slice pq (withC 1 (S.take i) ++ (z.take j).map (fun x => (x.1, x.2, 1 + i))).length cq).ownBlock) Wb w' → w'.cell? ⟨xb, 1, none⟩ = some (.int .i32 (b : Nat)) := fun w' hx => hx.cell hxq ((cell_blk hbn 1).trans rfl)
          have s3 : ∀ w', EOn (fun ad => some ad.block ≠ (Value.slice pq (withC 1 (S.take i) ++ (z.take j).map (fun x => (x.1, x.2, 1 + i))).length cq).ownBlock) Wb w' → w'.cell? ⟨db, 3, none⟩ = some (.slice pq (withC 1 (S.take i) ++ (z.take j).map (fun x => (x.1, x.2, 1 + i))).length cq) := fun w' hx => hx.cell hdq ((cell_blk HQ1.out.d 3).trans rfl)
          have hql : (withC 1 (S.take i) ++ (z.take j).map (fun x => (x.1, x.2, 1 + i))).length ≤ 20000 := by
            have h1 := HZ.out.1.2.1
            have h2 := HZ.out.1.2.2
            rw [List.length_append, withC_len, List.length_map, List.length_take]
            omega
          obtain ⟨Q, hQ⟩ : ∃ Q, withC 1 (S.take i) ++ (z.take j).map (fun x => (x.1, x.2, 1 + i)) = Q := ⟨_, rfl⟩
          have HQE := Lib.hid hQ
          simp only [hQ] at HQ1 hql hxq hdq s0 s1 s3 ⊢
          clear hQ
          have HNB := Lib.hid (And.intro hxq hdq)
          have iI : ((i : Nat) : Int) ≤ 60 := by omega
          clear hxq hdq
          refine wp_lex ((fun ad => some ad.block ≠ (Value.slice pq Q.length cq).ownBlock)) [true, true, true, true, true, true, true, true, true, true, true, true, false, false] (by kernel_rfl) (by kernel_rfl) ?_
          repeat first
            | refine wpG_move' ?_
            | refine wpG_assign' ?_
            | refine wpG_val' ?_
            | refine wpG_no' ?_
          clear s0 s1 s3
          refine wpG_do (by rfl) (fun w5 hx5 K hK => ?_)
          go_wp2_with fail
          refine ⟨EOn.of_ext ((Ext.refl w5).alloc _), ?_⟩
          have hnew := World.alloc_heap_new w5 (.cells #[.int .i32 (a : Nat), .int .i32 (b : Nat), .int .i64 ((i : Nat) + 1)] 123)
          have HQ5 := Lib.hid ((HQ1.out.ext hx5).ext ((Ext.refl w5).alloc (.cells #[.int .i32 (a : Nat), .int .i32 (b : Nat), .int .i64 ((i : Nat) + 1)] 123)))
          have HR5 := Lib.hid ((HR1.out.ext hx5).ext ((Ext.refl w5).alloc (.cells #[.int .i32 (a : Nat), .int .i32 (b : Nat), .int .i64 ((i : Nat) + 1)] 123)))
          generalize w5.alloc (.cells #[.int .i32 (a : Nat), .int .i32 (b : Nat), .int .i64 ((i : Nat) + 1)] 123) = w6 at hnew HQ5 HR5 ⊢
          generalize w5.heap.size = gb at hnew ⊢
          clear hx5 hbn HQ1 HR1
          obtain ⟨i0, hi0, hz0, hz1, hz3⟩ := info_parts Tryz.infoRd
          refine wpG_push rfl (fun a w h => by cases h.1) (.tmp 28) (.tmp 36) 102 rfl 123 i0 (.agg #[.int .i32 0, .int .i32 0, .int .i64 0]) 3 16 Tryz.underlying102 hi0 hz0 hz1 hz3 rfl (by decide) rfl HQ5.out.r HQ5.out.g.size [.int .i32 (a : Nat), .int .i32 (b : Nat), .int .i64 ((i : Nat) + 1)] gb 0 1 1 rfl rfl (fun j hj => by
            match j, hj with
            | 0, _ => exact (cell_blk hnew 0).trans rfl
            | 1, _ => exact (cell_blk hnew 1).trans rfl
            | 2, _ => exact (cell_blk hnew 2).trans rfl) (by intro u hu; simp at hu; rcases hu with rfl | rfl | rfl <;> rfl) (fun ad hS e => hS e.symm) (by omega) (by decide) ?_
          intro v' w9 w10 hx9 g1 g2 g4
          have HQ9 := Lib.hid (HQ5.out.ext hx9)
          have HR9 := Lib.hid ((HR5.out.ext hx9).but g2 (fun c cs fz hc e => by
            obtain ⟨cur, hcur⟩ := own_cells HQ9.out.r e.symm
            rw [hc] at hcur
            cases hcur))
          have HG := Lib.hid (And.intro (show w10.ownsRow w1.heap.size 123 3 v' (Q ++ [(a, b, 1 + i)]).length (rdW (Q ++ [(a, b, 1 + i)])) by
            rw [rdW_app, List.length_append, Nat.add_comm 1 i]
            exact g1) g2)
          clear g1 g2 g4 hx9 hnew HQ5 HR5
          refine wpG_end (fun w11 hx11 => ?_)
          have HG11 := Lib.hid (And.intro (ownsRow_ext HG.out.1 hx11) (HG.out.2.trans (grown_ext hx11 _)))
          have HR11 := Lib.hid (HR9.out.ext hx11)
          clear hx11 HG HR9
          obtain ⟨pv, cv, rfl⟩ := own_slice HG11.out.1
          have d11 : w11.heap[db]? = _ := (HG11.out.2.block db (blk_lt HQ9.out.d) HNB.out.2).trans HQ9.out.d
          have l0 := (cell_blk d11 3).trans rfl
          have l1 := frz_blk d11 3
          go_wp2_with fail
          refine gQ_normal ?_
          go_wp2_with fail
          have hcl := HQ9.out.ranged (D' := Q ++ [(a, b, 1 + i)]) HG11.out.2 HG11.out.1
          have hrh := HR11.out.but (grown_cell w11 db 3 (.slice pv (Q ++ [(a, b, 1 + i)]).length cv)) (fun c cs fz hc e => by
            rw [Option.some.inj e, d11] at hc
            cases hc)
          have hl1 : (Q ++ [(a, b, 1 + i)]).length = Q.length + 1 := by simp
          rw [hl1] at hcl hrh
          exact ⟨⟨j + 1, _, by simp, by omega, Lib.hid (by
            have hh := HTJ.out
            rw [hh, ← List.append_assoc, HQE.out]
            exact hcl), Lib.hid hrh⟩, by simp only [intOf]; omega⟩
        · have hJ : ¬ ((j : Nat) : Int) < (z.length : Nat) := by omega
          have hdj : decide (j < z.length) = false := decide_eq_false hjl
          obtain rfl : j = z.length := by omega
          obtain ⟨F, hF⟩ : ∃ F, (S.take i).flatten = F := ⟨_, rfl⟩
          have HFE := Lib.hid hF
          rw [hF] at HQ
          clear hF
          obtain ⟨pa, ca, rfl⟩ := own_slice HQ.out.a
          clear hjl hj
          go_wp2_with (at_builtin; refine Hid.out ?_)
          refine Lib.hid ?_
          refine wpList_appR rfl (.tmp 41) (.tmp 42) rfl rfl HQ.out.a HQ.out.g.size rfl HRJ.out.row HRJ.out.nil (by have := HZ.out.1.2.2; rw [HFE.out] at this; omega) (by omega) ?_
          intro v' w9 g1 g2
          have hcl := HQ.out.all g2 g1
          have HCL := Lib.hid (show ClSt w1 w9 db nv (.slice (some ⟨gs, 0, none⟩) (S.length + 1) cs) mb rq v' (withC 1 (S.take (i + 1))) (S.take (i + 1)).flatten by
            rw [HZ.out.2.2, HFE.out, HZ.out.2.1]
            rw [List.take_length] at hcl
            exact hcl)
          clear g1 g2 hcl
          go_wp2_with fail
          exact ⟨⟨i + 1, rq, by simp, by omega, HCL⟩, by simp only [intOf]; omega⟩
    · have hI : ¬ ((i : Nat) : Int) < (S.length : Nat) := by omega
      have hd : decide (i < S.length) = false := decide_eq_false hlt
      obtain rfl : i = S.length := by omega
      rw [List.take_length] at HC
      have hfl := HOK.out
      have hwl := withC_len S 1
      have hwm : ∀ x ∈ withC 1 S, x.1 ≤ 1114111 := fun x hx => by
        have := hfl.ok _ (withC_mem S 1 x hx)
        unfold RgOk at this
        simp only at this
        omega
      have hwn : ((withC 1 S).map fun x => x.1).Nodup := by rw [withC_fst]; exact hfl.one
      obtain ⟨D, hD⟩ : ∃ D, withC 1 S = D := ⟨_, rfl⟩
      obtain ⟨F, hF⟩ : ∃ F, S.flatten = F := ⟨_, rfl⟩
      rw [hD, hF] at HC hwl
      rw [hD] at hwm hwn
      rw [hF] at hfl
      have HDE := Lib.hid (And.intro hD (And.intro hwl (And.intro hwm (And.intro hwn hfl))))
      obtain ⟨pa, ca, rfl⟩ := own_slice HC.out.a
      obtain ⟨pr, cr, rfl⟩ := own_slice HC.out.r
      have e3 := (cell_blk HC.out.d 3).trans rfl
      clear hD hF hwl hwm hwn hfl hlt hi
      go_wp2_with fail
      refine (c_SortDD w1.heap.size pr cr D W HC.out.r (by have := HDE.out.2.1; have := HDE.out.2.2.2.2.len; omega) HDE.out.2.2.2.1 HDE.out.2.2.1).mono ?_
      rintro e w2 ⟨rfl, hr2, hg2⟩
      have n1 : some db ≠ (Value.slice pr D.length cr).ownBlock := fun e => by
        have h1 := (HC.out.r.lt db e.symm).1
        have h2 := HC.out.b
        omega
      have hd2 : w2.heap[db]? = _ := (hg2.block db (blk_lt HC.out.d) n1).trans HC.out.d
      have ha2 := HC.out.a.kept hg2 (own_ne HC.out.a HC.out.r (by decide))
      have hgg := HC.out.g.andThen hg2 (fun j e => .inl (HC.out.r.lt j e).1)
      have HE2 := Lib.hid (And.intro hr2 (And.intro hd2 (And.intro ha2 hgg)))
      have hgd : gs ≠ db := fun e => by
        obtain ⟨cur, hcur⟩ := own_cells HV.out.1 (j := gs) rfl
        rw [e, HD.out.d] at hcur
        cases hcur
      have hs2 := HV.out.1.kept hgg (.inr fun e => hgd (Option.some.inj e))
      have HS2 := Lib.hid (And.intro hs2 hgd)
      clear hr2 hg2 hd2 ha2 hgg hs2 hgd n1 e3
      have hv0 : ∃ u0, vs[0]? = some u0 ∧ ∃ p0 n0 c0, u0 = .slice p0 n0 c0 := by
        have h1 := HV.out.1.1
        simp only [List.length_cons] at h1
        have h2 : 0 < vs.length := by omega
        obtain ⟨p, cap, e, _⟩ := HV.out.2.1 0 _ _ (List.getElem?_eq_getElem h2) rfl
        exact ⟨vs[0], List.getElem?_eq_getElem h2, p, _, cap, e⟩
      obtain ⟨u0, hu0, p0, n0, q0, rfl⟩ := hv0
      have HU0 := Lib.hid hu0
      clear hu0
      have s2 : ∀ w', EOn (fun _ => True) w2 w' → w'.cell? ⟨db, 2, none⟩ = some (.slice (some ⟨gs, 0, none⟩) (S.length + 1) cs) := fun w' hx => hx.cell trivial ((cell_blk HE2.out.2.1 2).trans rfl)
      go_wp2_with fail
      refine wp_lex (fun _ => True) [true, true, true, true, true, false] (by kernel_rfl) (by kernel_rfl) ?_
      repeat first
        | refine wpG_move' ?_
        | refine wpG_assign' ?_
        | refine wpG_val' ?_
        | refine wpG_no' ?_
      clear s2
      refine wpG_do (by rfl) (fun w5 hx5 K hK => ?_)
      go_wp2_with fail
      refine (c_Not (.slice pa F.length ca) F w5 ((RRow.of_own HE2.out.2.2.1).ext hx5) HDE.out.2.2.2.2).mono ?_
      rintro e w6 ⟨x, rfl, ⟨nx, xs, hx⟩, hx6⟩
      obtain ⟨px, cx, rfl⟩ := own_slice hx
      refine hK _ _ ⟨EOn.of_ext hx6, ?_⟩
      clear hK hx
      refine wpG_end (fun w7 hx7 => ?_)
      have hx27 := (hx5.trans hx6).trans hx7
      have HX := Lib.hid (And.intro (HE2.out.1.ext hx27) (And.intro (hx27.blk HE2.out.2.1) (And.intro (ownsRow_ext HS2.out.1 hx27) (HE2.out.2.2.2.trans (grown_ext hx27 _)))))
      have b0 : w7.cell? ⟨gs, 0, none⟩ = some (.slice p0 n0 q0) := by
        have := HX.out.2.2.1.cellAt 0 (by simp)
        rw [this]
        exact HU0.out
      have b1 := HX.out.2.2.1.frozenAt 0
      clear hx5 hx6 hx7 hx27
      go_wp2_with fail
      refine gQ_normal ?_
      have g8 := grown_cell w7 gs 0 (.slice px nx cx)
      have hne := HS2.out.2
      have hd8 : (w7.setCell ⟨gs, 0, none⟩ (.slice px nx cx)).heap[db]? = _ := (g8.block db (blk_lt HX.out.2.1) (fun e => hne (Option.some.inj e).symm)).trans HX.out.2.1
      obtain ⟨cg, hcg⟩ := own_cells HV.out.1 (j := gs) rfl
      have hn1 : nv.ownBlock ≠ some db := fun e => by
        obtain ⟨cur, hcur⟩ := own_cells HD.out.n e
        rw [HD.out.d] at hcur
        cases hcur
      have hn2 : nv.ownBlock ≠ some gs := fun e => by
        obtain ⟨cur, hcur⟩ := own_cells HD.out.n e
        rw [hcg] at hcur
        cases hcur
      have hm1 : some mb ≠ some db := fun e => by
        obtain ⟨es, ck, hb, _⟩ := HD.out.m
        have := HD.out.d
        rw [← Option.some.inj e, hb] at this
        cases this
      have hm2 : some mb ≠ some gs := fun e => by
        obtain ⟨es, ck, hb, _⟩ := HD.out.m
        rw [← Option.some.inj e, hb] at hcg
        cases hcg
      have hn8 := (HD.out.n.kept HX.out.2.2.2 (.inr hn1)).kept g8 (.inr hn2)
      have hm8 := (HD.out.m.kept HX.out.2.2.2 hm1).kept g8 hm2
      have hr8 : RdRow (w7.setCell ⟨gs, 0, none⟩ (.slice px nx cx)) (.slice pr D.length cr) (srtK (fun x => x.1) D) := HX.out.1.but g8 (fun g e => by
        have h1 := HC.out.r.lt g e
        omega)
      have hb8 : B ≤ w1.heap.size → Below B w1 (w7.setCell ⟨gs, 0, none⟩ (.slice px nx cx)) := fun hB => Below.setCell (Below.grown (Below.refl B w1) HX.out.2.2.2 hB (fun k e => by cases e; exact HD.out.b.1)) hgs1 _
      have HF := Lib.hid (show DbIs (w7.setCell ⟨gs, 0, none⟩ (.slice px nx cx)) db N (srtK (fun x => x.1) (withC 1 S)) ∧ (B ≤ w1.heap.size → Below B w1 (w7.setCell ⟨gs, 0, none⟩ (.slice px nx cx))) from ⟨⟨⟨_, _, _, _, hd8, ⟨_, hn8⟩, hm8, by rw [HDE.out.1]; exact hr8⟩, HD.out.w⟩, hb8⟩)
      clear g8 hd8 hn1 hn2 hm1 hm2 hn8 hm8 hr8 hb8 hcg b0 b1
      generalize w7.setCell ⟨gs, 0, none⟩ (.slice px nx cx) = w8 at HF ⊢
      go_end0
      exact ⟨rfl, HF.out⟩
end Go.Proofs.YtlmkbldiicbejaaGreatDoor
end
