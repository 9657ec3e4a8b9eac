/-
  Rows are the text; what is dropped is blanks and line ends. The law WrapLeast.
-/
import Derived.Test.YtlmkbldiicbejaaGreatDoorWrP
import Derived.Test.YtlmkbldiicbejaaGreatDoorWpA
import Derived.Test.YtlmkbldiicbejaaGreatDoorLwA
section
namespace Go.Proofs.YtlmkbldiicbejaaGreatDoor
open Go.RowKit Go.Rp Go.Maps Go.Cl Go.Shelf Go.Gr Go.Ln

/-- The runes that may be dropped. -/
def okN (r : Nat) : Bool := r == 32 || r == 10 || r == 13 || r == 11 || r == 12 || r == 133 || r == 8232 || r == 8233 || r == 8203
def oneB (x : Nat × Nat × Nat) : Bool := !(Nat.ble 1 x.2.2 && Nat.ble x.2.2 5) || (List.range' x.1 (x.2.1 + 1 - x.1)).all okN
theorem getR_one : ∀ (D : List (Nat × Nat × Nat)), D.all oneB = true → ∀ r, 1 ≤ getR D r → getR D r ≤ 5 → okN r = true
  | [], _, r, h1, _ => by rw [getR] at h1; omega
  | x :: D, h, r, h1, h2 => by
    rw [List.all_cons, Bool.and_eq_true] at h
    rw [getR] at h1 h2
    split at h1
    · rename_i hlt
      rw [if_pos hlt] at h2
      exact getR_one D h.2 r h1 h2
    · rename_i hlt
      rw [if_neg hlt] at h2
      split at h1
      · rename_i hle
        rw [if_pos hle] at h2
        have hb := h.1
        unfold oneB at hb
        rw [Nat.ble_eq_true_of_le h1, Nat.ble_eq_true_of_le h2] at hb
        simp only [Bool.and_self, Bool.not_true, Bool.false_or, List.all_eq_true] at hb
        exact hb r (by rw [List.mem_range']; exact ⟨r - x.1, by omega, by omega⟩)
      · omega
theorem okT_ok (r : Nat) (h : okT r = true) : okN r = true := by
  unfold okT at h
  have h := of_decide_eq_true h
  exact getR_one rngL (by kernel_rfl) r (by unfold clsL at h; omega) (by unfold clsL at h; omega)
theorem okT_bad : okT 65533 = false := by
  unfold okT
  rw [clsL_bad]
  rfl
/-- The last boxes of lines that are all the boxes. -/
def Brk (n : Nat) : Nat → List Nat → Prop
  | i, [] => i = n
  | i, k :: E => i ≤ k ∧ k < n ∧ Brk n (k + 1) E
theorem brk_cost {r : Wp.Wr} {l : List Wp.Bx} : ∀ (E : List Nat) (i : Nat) (c : Int), Wp.costF r l i (E.map Int.ofNat) = some c → Brk l.length i E
  | [], i, c, h => by
    rw [List.map_nil, Wp.costF] at h
    split at h
    · assumption
    · cases h
  | k :: E, i, c, h => by
    rw [List.map_cons] at h
    obtain ⟨k', d, e, h1, h2, _, _, h5, _⟩ := Wp.costF_cons h
    obtain rfl : k = k' := by have e : ((k : Nat) : Int) = (k' : Nat) := e; omega
    exact ⟨h1, h2, brk_cost E _ d h5⟩
theorem brk_lines (r : Wp.Wr) (ev : Bool) (l : List Wp.Bx) : Brk l.length 0 (Wp.linesK r ev l) := by
  obtain ⟨c, hc⟩ := Wp.lines_ok r ev l
  exact brk_cost _ _ c hc
theorem Brk.lt {n : Nat} : ∀ {E : List Nat} {i : Nat}, Brk n i E → ∀ k ∈ E, k < n
  | [], _, _, k, h => by cases h
  | x :: E, i, h, k, hk => by
    rcases List.mem_cons.1 hk with rfl | hk
    · exact h.2.1
    · exact Brk.lt h.2.2 k hk
/-- Where the piece of a number begins. -/
def pE (L : List Pc) (i : Nat) : Nat := if i = 0 then 0 else (gP L (i - 1)).e
theorem pE_succ (L : List Pc) (i : Nat) : pE L (i + 1) = (gP L i).e := by
  unfold pE
  rw [if_neg (by omega), Nat.add_sub_cancel]
/-- Pieces end one behind the other. -/
def PRise (L : List Pc) (n : Nat) : Prop := (∀ i j, i < j → j ≤ L.length → pE L i < pE L j) ∧ pE L L.length = n
theorem PRise.end_le {L : List Pc} {n : Nat} (h : PRise L n) {i : Nat} (hi : i ≤ L.length) : pE L i ≤ n := by
  rcases Nat.lt_or_eq_of_le hi with q | q
  · rw [← h.2]
    exact Nat.le_of_lt (h.1 i _ q (Nat.le_refl _))
  · rw [q, h.2]
    exact Nat.le_refl _
/-- Rows that are a text from a place on. -/
def RowsOk (s : ByteArray) (F R : Int) : Nat → List Rw → Prop
  | a, [] => a = s.size
  | a, r :: rs => (r.f = a ∧ r.f < r.e ∧ r.f ≤ r.t ∧ r.t ≤ r.e ∧ r.e ≤ s.size) ∧ (∀ c ∈ runesOf (s.extract r.t r.e).data.toList, okN c = true) ∧ (r.i = F ∨ r.i = R) ∧ RowsOk s F R r.e rs
theorem extract_drop (s : ByteArray) (a b k : Nat) (_ : b ≤ s.size) (_ : a ≤ b) : (s.extract a b).data.toList.drop k = (s.extract (a + k) b).data.toList := by
  simp only [ByteArray.data_extract, Array.toList_extract, List.extract_eq_take_drop, List.drop_take, List.drop_drop]
  congr 1
  omega
theorem rows_ok (s : ByteArray) (L : List Pc) (F R : Int) (hP : PRise L s.size) : ∀ (E : List Nat) (i : Nat) (fi : Bool), Brk L.length i E → i ≤ L.length → RowsOk s F R (pE L i) (rowS s L F R (pE L i) fi E)
  | [], i, fi, h, hi => by
    have e : i = L.length := h
    rw [rowS, e]
    exact hP.2
  | k :: E, i, fi, h, hi => by
    obtain ⟨h1, h2, h3⟩ := h
    rw [rowS]
    have e1 : (gP L k).e = pE L (k + 1) := (pE_succ L k).symm
    have hlt := hP.1 i (k + 1) (by omega) (by omega)
    have hle := hP.end_le (i := k + 1) (by omega)
    have ht := trailL_le okT (s.extract (pE L i) (pE L (k + 1))).size (s.extract (pE L i) (pE L (k + 1))).data.toList
    have hln : (s.extract (pE L i) (pE L (k + 1))).data.toList.length = pE L (k + 1) - pE L i := by
      show (s.extract (pE L i) (pE L (k + 1))).data.size = _
      rw [show (s.extract (pE L i) (pE L (k + 1))).data.size = (s.extract (pE L i) (pE L (k + 1))).size from rfl, ByteArray.size_extract]
      omega
    rw [hln] at ht
    refine ⟨?_, ?_, ?_, ?_⟩
    · unfold rwOf
      simp only
      rw [e1]
      refine ⟨trivial, hlt, by omega, by omega, hle⟩
    · unfold rwOf
      simp only
      rw [e1]
      intro c hc
      rw [← extract_drop _ _ _ _ hle (by omega)] at hc
      exact okT_ok c (trail_runes okT okT_bad _ _ c hc)
    · unfold rwOf
      simp only
      cases fi
      · exact .inr rfl
      · exact .inl rfl
    · have ih := rows_ok s L F R hP E (k + 1) (lastP L k) h3 (by omega)
      rw [← e1] at ih
      exact ih
/-- The pieces of a text rise. -/
theorem pcS_e (a tb : Nat) (s : ByteArray) : ∀ (x : List (Nat × Bool)) (f : Nat), (pcS a tb s f x).map (fun p => p.e) = x.map (fun c => c.1)
  | [], _ => rfl
  | c :: x, f => by rw [pcS, List.map_cons, List.map_cons, pcS_e a tb s x c.1]
theorem gP_e (a tb : Nat) (s : ByteArray) (x : List (Nat × Bool)) (f i : Nat) : (gP (pcS a tb s f x) i).e = (x.map fun c => c.1).getD i 0 := by
  rw [← pcS_e a tb s x f]
  unfold gP
  rw [List.getD_eq_getElem?_getD, List.getD_eq_getElem?_getD, List.getElem?_map]
  cases (pcS a tb s f x)[i]? <;> rfl
theorem pc_rise (a tb : Nat) (s : ByteArray) : PRise (pcS a tb s 0 (chK s)) s.size := by
  have hr : ((chK s).map fun c => c.1).Pairwise (· < ·) := List.pairwise_map.2 (chK_rise s)
  have hlen : ((chK s).map fun c => c.1).length = (pcS a tb s 0 (chK s)).length := by rw [List.length_map, pcS_len]
  have hin : ∀ i, i < (pcS a tb s 0 (chK s)).length → 0 < (gP (pcS a tb s 0 (chK s)) i).e := fun i hi => by
    rw [gP_e]
    obtain ⟨c, hc, e⟩ := List.mem_map.1 (getD_memA (A := (chK s).map fun c => c.1) (j := i) (by omega))
    rw [← e]
    exact (chK_in s c hc).1
  refine ⟨fun i j hij hj => ?_, ?_⟩
  · obtain ⟨k, rfl⟩ : ∃ k, j = k + 1 := ⟨j - 1, by omega⟩
    rw [pE_succ]
    by_cases h0 : i = 0
    · subst h0
      exact hin k (by omega)
    · unfold pE
      rw [if_neg h0, gP_e, gP_e]
      exact getD_lt hr (by omega) (by omega)
  · rcases Nat.eq_zero_or_pos s.size with h0 | h0
    · rw [chK_nil s h0, h0]
      rfl
    · obtain ⟨l, hl⟩ := chK_last s h0
      rw [pcS_len]
      have e : (chK s).length = l.length + 1 := by rw [hl]; simp
      rw [e, pE_succ, gP_e, hl, List.map_append, List.getD_eq_getElem?_getD, List.getElem?_append_right (by simp)]
      simp
theorem pE_stE (L : List Pc) : ∀ (E : List Nat) (j : Nat), stE L (pE L j) E = pE L (E.foldl (fun _ k => k + 1) j)
  | [], j => rfl
  | k :: E, j => by
    show stE L (gP L k).e E = _
    rw [← pE_succ, pE_stE L E (k + 1)]
    rfl
theorem Brk.fold {n : Nat} : ∀ {E : List Nat} {i : Nat} (_ : Brk n i E) (j : Nat) (hj : j < E.length), (E.take j).foldl (fun _ k => k + 1) i ≤ E[j]
  | [], _, _, j, hj => by simp at hj
  | k :: E, i, h, 0, _ => h.1
  | k :: E, i, h, j + 1, hj => by
    simpa using Brk.fold h.2.2 j (by simpa using hj)
theorem rows_fr {L : List Pc} {n : Nat} (hP : PRise L n) {E : List Nat} (h : Brk L.length 0 E) (i : Nat) (hi : i < E.length) : stE L 0 (E.take i) ≤ (gP L E[i]).e := by
  have h1 := pE_stE L (E.take i) 0
  have h2 := h.fold i hi
  have h3 := h.lt E[i] (List.getElem_mem hi)
  rw [show pE L 0 = 0 from rfl] at h1
  rw [h1, ← pE_succ]
  exact Nat.le_of_lt (hP.1 _ _ (by omega) (by omega))
end Go.Proofs.YtlmkbldiicbejaaGreatDoor
end

section
namespace Go.Proofs.YtlmkbldiicbejaaGreatDoor
open Go.RowKit Go.Rp Go.Maps Go.Cl Go.Shelf Go.Gr Go.Ln

theorem linA_lt {l : List BxI} {W F R H : Int} : ∀ x ∈ linA l W F R H, x < l.length := by
  intro x hx
  by_cases h : (chkK l W F R H).1 = 0
  · rw [linA_ok h] at hx
    have := (brk_lines ⟨W, F, R⟩ (H == 1) (l.map unB)).lt x hx
    rwa [List.length_map] at this
  · rw [linA_none (.inl h)] at hx
    cases hx
theorem nat_bd {l : List Nat} {n : Nat} (h : ∀ x ∈ l, x < n) (hn : n ≤ 64) : ∀ x ∈ l.map Int.ofNat, -9223372036854775808 ≤ x ∧ x ≤ 9223372036854775807 := by
  intro x hx
  obtain ⟨y, hy, rfl⟩ := List.mem_map.1 hx
  have h1 := h y hy
  have h2 : Int.ofNat y = (y : Int) := rfl
  rw [h2]
  omega
/-- What lines cost that the program itself found. -/
theorem c_CostL (p : Option Addr) (cap : Nat) (l : List BxI) (pa : Option Addr) (ca B : Nat) (la : List Nat) (W F R H : Int) (w : World) (h : BxRow w (.slice p l.length cap) l) (ha : w.ownsRow B 3 1 (.slice pa la.length ca) la.length (nW la)) (hb : ∀ x ∈ la, x < l.length) (hl : la.length ≤ l.length) (hn : l.length ≤ 64) :
    Calls Tryz.prog 16 #[.slice p l.length cap, .agg #[.int .i64 W, .int .i64 F, .int .i64 R, .int .i64 H], .slice pa la.length ca] w fun e w' => e = .returned (.tuple #[.int .i64 ((cstA l W F R H (la.map Int.ofNat)).getD 0), .bool (cstA l W F R H (la.map Int.ofNat)).isSome]) ∧ Ext w w' :=
  c_CostA _ _ l (la.map Int.ofNat) W F R H w h (IRow.of_nat ha) (nat_bd hb hn) (by rw [List.length_map]; omega) hn
set_option maxRecDepth 100000 in
set_option maxHeartbeats 4000000 in
theorem c_Least (v ve : Value) (l : List BxI) (W F R H : Int) (es : List Int) (w : World) (hT : TabsW w) (h : BxRow w v l) (he : IRow w ve es) (hee : ∀ x ∈ es, -9223372036854775808 ≤ x ∧ x ≤ 9223372036854775807) :
    Calls Tryz.prog 6 #[v, .agg #[.int .i64 W, .int .i64 F, .int .i64 R, .int .i64 H], ve] w fun e w' => e = .returned (.bool true) ∧ Ext w w' := by
  have HL := Lib.hid (fun W' (h' : Ext w W') => c_live16 W' (hT.ext h'))
  have HB := Lib.hid h
  have HE := Lib.hid (And.intro he hee)
  obtain ⟨p, cap, rfl, _, _⟩ := id h
  obtain ⟨ep, ec, rfl, _, _⟩ := id he
  clear hT h he hee
  by_cases hb1 : (40 : Int) < (l.length : Nat)
  · go_enter Tryz.func6, Tryz.ntmps6
    go_wp2_with fail
    refine (HL.out _ ((Ext.refl w).alloc _)).mono ?_
    rintro e wl ⟨rfl, hxl⟩
    have HXL := Lib.hid (((Ext.refl w).alloc _).trans hxl)
    clear hxl
    go_wp2_with fail
    exact ret_one rfl rfl rfl ⟨rfl, HXL.out⟩
  · by_cases hb2 : (100 : Int) < (es.length : Nat)
    · go_enter Tryz.func6, Tryz.ntmps6
      go_wp2_with fail
      refine (HL.out _ ((Ext.refl w).alloc _)).mono ?_
      rintro e wl ⟨rfl, hxl⟩
      have HXL := Lib.hid (((Ext.refl w).alloc _).trans hxl)
      clear hxl
      go_wp2_with fail
      exact ret_one rfl rfl rfl ⟨rfl, HXL.out⟩
    · have HLE := Lib.hid (fun W' (h' : Ext w W') => c_LinesA _ l W F R 1 W' (HB.out.ext h') (by omega))
      have HLG := Lib.hid (fun W' (h' : Ext w W') => c_LinesA _ l W F R 0 W' (HB.out.ext h') (by omega))
      have HCS := Lib.hid (fun W' (h' : Ext w W') => c_CostA _ _ l es W F R 1 W' (HB.out.ext h') (HE.out.1.ext h') HE.out.2 (by omega) (by omega))
      have HCE := Lib.hid (fun pa ca B W' (h' : Ext w W') ha => c_CostL p cap l pa ca B (linA l W F R 1) W F R 1 W' (HB.out.ext h') ha linA_lt (linA_len l W F R 1) (by omega))
      have HCG := Lib.hid (fun pa ca B W' (h' : Ext w W') ha => c_CostL p cap l pa ca B (linA l W F R 0) W F R 0 W' (HB.out.ext h') ha linA_lt (linA_len l W F R 0) (by omega))
      have HF := Lib.hid (fun q => leastA (l := l) (W := W) (F := F) (R := R) q)
      have hle := linA_len l W F R 1
      have hlg := linA_len l W F R 0
      generalize linA l W F R 0 = lg at HLG HCG HF hlg
      generalize linA l W F R 1 = la at HLE HCE HF hle
      generalize (chkK l W F R 0).1 = c0 at HLG HF
      generalize (chkK l W F R 1).1 = c1 at HLE HF
      go_enter Tryz.func6, Tryz.ntmps6
      go_wp2_with fail
      have hb := World.alloc_heap_new w (.cells #[.int .i64 W, .int .i64 F, .int .i64 R, .int .i64 1] 24)
      have hx := (Ext.refl w).alloc (.cells #[.int .i64 W, .int .i64 F, .int .i64 R, .int .i64 1] 24)
      generalize w.alloc (.cells #[.int .i64 W, .int .i64 F, .int .i64 R, .int .i64 1] 24) = w1 at hb hx ⊢
      obtain ⟨tb, htb⟩ : ∃ tb, w.heap.size = tb := ⟨_, rfl⟩
      rw [htb] at hb ⊢
      have HTN := Lib.hid htb
      clear htb
      have HX1 := Lib.hid hx
      have HTB := Lib.hid hb
      clear hb hx
      refine (HLE.out w1 HX1.out).mono ?_
      rintro e w2 ⟨u, rfl, hown, hx2⟩
      obtain ⟨pu, cu, rfl⟩ := own_slice hown
      have HX2 := Lib.hid hx2
      have HOA := Lib.hid hown
      clear hown hx2
      go_wp2_with fail
      refine (c_num16 c1 w2).mono ?_
      rintro e w2 ⟨rfl, rfl⟩
      by_cases h0 : c1 = 0
      · subst h0
        obtain ⟨best, d, f1, f2, f3, f4, f5, f6⟩ := HF.out rfl
        subst f3
        have HF2 := Lib.hid f2
        have hcb := congrArg (fun x => x.getD 0) f1
        have hcs := congrArg Option.isSome f1
        have hdb := congrArg (fun x => x.getD 0) f4
        have hds := congrArg Option.isSome f4
        simp only [Option.getD_some, Option.isSome_some] at hcb hcs hdb hds
        rw [hcb, hcs] at HCE
        rw [hdb, hds] at HCG
        obtain ⟨cs, hcv⟩ : ∃ cs, cstA l W F R 1 es = cs := ⟨_, rfl⟩
        rw [hcv] at HCS
        have HCV := Lib.hid hcv
        clear hcv
        clear HF f1 f2 f4 hcb hcs hdb hds
        have m0 : w2.cell? ⟨tb, 0, none⟩ = some (.int .i64 W) := (cell_blk (HX2.out.blk HTB.out) 0).trans rfl
        have m1 : w2.cell? ⟨tb, 1, none⟩ = some (.int .i64 F) := (cell_blk (HX2.out.blk HTB.out) 1).trans rfl
        have m2 : w2.cell? ⟨tb, 2, none⟩ = some (.int .i64 R) := (cell_blk (HX2.out.blk HTB.out) 2).trans rfl
        have m3 : w2.cell? ⟨tb, 3, none⟩ = some (.int .i64 1) := (cell_blk (HX2.out.blk HTB.out) 3).trans rfl
        go_wp2_with fail
        refine (HCE.out pu cu _ w2 (HX1.out.trans HX2.out) HOA.out).mono ?_
        rintro e w3 ⟨rfl, hx3⟩
        have HX3 := Lib.hid (HX2.out.trans hx3)
        clear m0 m1 m2 m3 hx3
        have m0 : w3.cell? ⟨tb, 0, none⟩ = some (.int .i64 W) := (cell_blk (HX3.out.blk HTB.out) 0).trans rfl
        have m1 : w3.cell? ⟨tb, 1, none⟩ = some (.int .i64 F) := (cell_blk (HX3.out.blk HTB.out) 1).trans rfl
        have m2 : w3.cell? ⟨tb, 2, none⟩ = some (.int .i64 R) := (cell_blk (HX3.out.blk HTB.out) 2).trans rfl
        have m3 : w3.cell? ⟨tb, 3, none⟩ = some (.int .i64 1) := (cell_blk (HX3.out.blk HTB.out) 3).trans rfl
        go_wp2_with fail
        refine (HCS.out w3 (HX1.out.trans HX3.out)).mono ?_
        rintro e w4 ⟨rfl, hx4⟩
        have HX4 := Lib.hid (HX3.out.trans hx4)
        clear m0 m1 m2 m3 hx4
        have z0 := frz_blk (HX4.out.blk HTB.out) 3
        have z1 : w4.cell? ⟨tb, 3, none⟩ = some (.int .i64 1) := (cell_blk (HX4.out.blk HTB.out) 3).trans rfl
        have hs := set_blk (HX4.out.blk HTB.out) 3 (.int .i64 0)
        have n0 : (w4.setCell ⟨tb, 3, none⟩ (.int .i64 0)).cell? ⟨tb, 0, none⟩ = some (.int .i64 W) := (cell_blk hs 0).trans rfl
        have n1 : (w4.setCell ⟨tb, 3, none⟩ (.int .i64 0)).cell? ⟨tb, 1, none⟩ = some (.int .i64 F) := (cell_blk hs 1).trans rfl
        have n2 : (w4.setCell ⟨tb, 3, none⟩ (.int .i64 0)).cell? ⟨tb, 2, none⟩ = some (.int .i64 R) := (cell_blk hs 2).trans rfl
        have n3 : (w4.setCell ⟨tb, 3, none⟩ (.int .i64 0)).cell? ⟨tb, 3, none⟩ = some (.int .i64 0) := (cell_blk hs 3).trans rfl
        have HSB := Lib.hid hs
        have HXS := Lib.hid (show Ext w (w4.setCell ⟨tb, 3, none⟩ (.int .i64 0)) from Ext.setCell (HX1.out.trans HX4.out) (show w.heap.size ≤ tb by rw [HTN.out]; exact Nat.le_refl _) _)
        clear hs
        cases cs with
        | none =>
          simp only [Option.getD_none, Option.isSome_none]
          go_wp2_with fail
          refine (HLG.out _ HXS.out).mono ?_
          rintro e w5 ⟨ub, rfl, hown, hx5⟩
          obtain ⟨pb, cb, rfl⟩ := own_slice hown
          have HX5 := Lib.hid hx5
          have HOB := Lib.hid hown
          clear hown hx5 n0 n1 n2 n3
          have m0 : w5.cell? ⟨tb, 0, none⟩ = some (.int .i64 W) := (cell_blk (HX5.out.blk HSB.out) 0).trans rfl
          have m1 : w5.cell? ⟨tb, 1, none⟩ = some (.int .i64 F) := (cell_blk (HX5.out.blk HSB.out) 1).trans rfl
          have m2 : w5.cell? ⟨tb, 2, none⟩ = some (.int .i64 R) := (cell_blk (HX5.out.blk HSB.out) 2).trans rfl
          have m3 : w5.cell? ⟨tb, 3, none⟩ = some (.int .i64 0) := (cell_blk (HX5.out.blk HSB.out) 3).trans rfl
          go_wp2_with fail
          refine (HCG.out pb cb _ w5 (HXS.out.trans HX5.out) HOB.out).mono ?_
          rintro e w6 ⟨rfl, hx6⟩
          have HX6 := Lib.hid ((HXS.out.trans HX5.out).trans hx6)
          clear m0 m1 m2 m3 hx6
          go_wp2_with fail
          refine (c_num16 0 w6).mono ?_
          rintro e w6 ⟨rfl, rfl⟩
          have hI5 : best ≤ d := f5
          have hI6 : ((lg.length : Nat) : Int) ≤ (la.length : Nat) := by omega
          go_wp2_with fail
          refine (HL.out _ (HX6.out)).mono ?_
          rintro e wl ⟨rfl, hxl⟩
          have HXL := Lib.hid ((HX6.out).trans hxl)
          clear hxl
          go_wp2_with fail
          exact ret_one rfl rfl rfl ⟨rfl, HXL.out⟩
        | some c =>
          simp only [Option.getD_some, Option.isSome_some]
          have hlI : ((la.length : Nat) : Int) ≤ 64 := by omega
          rcases HF2.out es c HCV.out with hq | ⟨rfl, hq⟩
          · have hc1 : ¬ c < best := by omega
            have hc2 : (c == best) = false := by simp; omega
            go_wp2_with fail
            refine (HLG.out _ HXS.out).mono ?_
            rintro e w5 ⟨ub, rfl, hown, hx5⟩
            obtain ⟨pb, cb, rfl⟩ := own_slice hown
            have HX5 := Lib.hid hx5
            have HOB := Lib.hid hown
            clear hown hx5 n0 n1 n2 n3
            have m0 : w5.cell? ⟨tb, 0, none⟩ = some (.int .i64 W) := (cell_blk (HX5.out.blk HSB.out) 0).trans rfl
            have m1 : w5.cell? ⟨tb, 1, none⟩ = some (.int .i64 F) := (cell_blk (HX5.out.blk HSB.out) 1).trans rfl
            have m2 : w5.cell? ⟨tb, 2, none⟩ = some (.int .i64 R) := (cell_blk (HX5.out.blk HSB.out) 2).trans rfl
            have m3 : w5.cell? ⟨tb, 3, none⟩ = some (.int .i64 0) := (cell_blk (HX5.out.blk HSB.out) 3).trans rfl
            go_wp2_with fail
            refine (HCG.out pb cb _ w5 (HXS.out.trans HX5.out) HOB.out).mono ?_
            rintro e w6 ⟨rfl, hx6⟩
            have HX6 := Lib.hid ((HXS.out.trans HX5.out).trans hx6)
            clear m0 m1 m2 m3 hx6
            go_wp2_with fail
            refine (c_num16 0 w6).mono ?_
            rintro e w6 ⟨rfl, rfl⟩
            have hI5 : best ≤ d := f5
            have hI6 : ((lg.length : Nat) : Int) ≤ (la.length : Nat) := by omega
            go_wp2_with fail
            refine (HL.out _ (HX6.out)).mono ?_
            rintro e wl ⟨rfl, hxl⟩
            have HXL := Lib.hid ((HX6.out).trans hxl)
            clear hxl
            go_wp2_with fail
            exact ret_one rfl rfl rfl ⟨rfl, HXL.out⟩
          · have hc3 : ¬ ((es.length : Nat) : Int) < (la.length : Nat) := by omega
            go_wp2_with fail
            refine (HLG.out _ HXS.out).mono ?_
            rintro e w5 ⟨ub, rfl, hown, hx5⟩
            obtain ⟨pb, cb, rfl⟩ := own_slice hown
            have HX5 := Lib.hid hx5
            have HOB := Lib.hid hown
            clear hown hx5 n0 n1 n2 n3
            have m0 : w5.cell? ⟨tb, 0, none⟩ = some (.int .i64 W) := (cell_blk (HX5.out.blk HSB.out) 0).trans rfl
            have m1 : w5.cell? ⟨tb, 1, none⟩ = some (.int .i64 F) := (cell_blk (HX5.out.blk HSB.out) 1).trans rfl
            have m2 : w5.cell? ⟨tb, 2, none⟩ = some (.int .i64 R) := (cell_blk (HX5.out.blk HSB.out) 2).trans rfl
            have m3 : w5.cell? ⟨tb, 3, none⟩ = some (.int .i64 0) := (cell_blk (HX5.out.blk HSB.out) 3).trans rfl
            go_wp2_with fail
            refine (HCG.out pb cb _ w5 (HXS.out.trans HX5.out) HOB.out).mono ?_
            rintro e w6 ⟨rfl, hx6⟩
            have HX6 := Lib.hid ((HXS.out.trans HX5.out).trans hx6)
            clear m0 m1 m2 m3 hx6
            go_wp2_with fail
            refine (c_num16 0 w6).mono ?_
            rintro e w6 ⟨rfl, rfl⟩
            have hI5 : best ≤ d := f5
            have hI6 : ((lg.length : Nat) : Int) ≤ (la.length : Nat) := by omega
            go_wp2_with fail
            refine (HL.out _ (HX6.out)).mono ?_
            rintro e wl ⟨rfl, hxl⟩
            have HXL := Lib.hid ((HX6.out).trans hxl)
            clear hxl
            go_wp2_with fail
            exact ret_one rfl rfl rfl ⟨rfl, HXL.out⟩
      · have hb : (c1 != 0) = true := bne_iff_ne.2 h0
        clear HF h0
        go_wp2_with fail
        refine (HL.out _ (HX1.out.trans HX2.out)).mono ?_
        rintro e wl ⟨rfl, hxl⟩
        have HXL := Lib.hid ((HX1.out.trans HX2.out).trans hxl)
        clear hxl
        go_wp2_with fail
        exact ret_one rfl rfl rfl ⟨rfl, HXL.out⟩
end Go.Proofs.YtlmkbldiicbejaaGreatDoor
end
