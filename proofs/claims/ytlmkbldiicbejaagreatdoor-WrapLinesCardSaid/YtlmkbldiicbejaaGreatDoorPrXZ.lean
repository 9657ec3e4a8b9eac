/-
  A database out of a text. A rune's class. The texts of classes, out of the program; what they say, checked by the kernel.
-/
import Derived.Test.YtlmkbldiicbejaaGreatDoorPrUV
section
namespace Go.Proofs.YtlmkbldiicbejaaGreatDoor
open Go.RowKit Go.Rp Go.Maps Go.Cl Go.Shelf

attribute [local go_sem] run_makeMap
theorem splitC_mem (c : UInt8) : ∀ (t cur l : List UInt8), l ∈ splitC c cur t → ∀ x ∈ l, x ∈ cur ∨ x ∈ t
  | [], cur, l, h, x, hx => by
    rw [splitC, List.mem_singleton] at h
    exact .inl (h ▸ hx)
  | y :: t, cur, l, h, x, hx => by
    rw [splitC] at h
    split at h
    · rcases List.mem_cons.1 h with rfl | h
      · exact .inl hx
      · rcases splitC_mem c t [] l h x hx with h1 | h1
        · cases h1
        · exact .inr (List.mem_cons_of_mem _ h1)
    · rcases splitC_mem c t _ l h x hx with h1 | h1
      · rcases List.mem_append.1 h1 with h2 | h2
        · exact .inl h2
        · rw [List.mem_singleton] at h2
          exact .inr (h2 ▸ List.mem_cons_self ..)
      · exact .inr (List.mem_cons_of_mem _ h1)
theorem splitC_len (c : UInt8) : ∀ (t cur : List UInt8), (splitC c cur t).length ≤ t.length + 1 ∧ ∀ l ∈ splitC c cur t, l.length ≤ cur.length + t.length
  | [], cur => ⟨by simp [splitC], fun l h => by rw [splitC, List.mem_singleton] at h; simp [h]⟩
  | y :: t, cur => by
    rw [splitC]
    split
    · obtain ⟨h1, h2⟩ := splitC_len c t []
      refine ⟨by simp; omega, fun l h => ?_⟩
      rcases List.mem_cons.1 h with rfl | h
      · simp
      · have := h2 l h; simp at this ⊢; omega
    · obtain ⟨h1, h2⟩ := splitC_len c t (cur ++ [y])
      refine ⟨by simp; omega, fun l h => ?_⟩
      have := h2 l h; simp at this ⊢; omega
/-- What was read of some lines. -/
def readP (L : List (List UInt8)) : List (List (Nat × Nat) × List UInt8) := ((L.map trimB).filter fun l => !l.isEmpty).map lineP
theorem readP_all (t : List UInt8) : readP (splitC 10 [] t) = dbP t := rfl
theorem readP_app (A B : List (List UInt8)) : readP (A ++ B) = readP A ++ readP B := by simp [readP]
def namesQ (P : List (List (Nat × Nat) × List UInt8)) : List (List UInt8) := othB :: P.map (·.2)
def setsQ (P : List (List (Nat × Nat) × List UInt8)) : List (List (Nat × Nat)) := [] :: P.map fun p => normR (normR p.1)
theorem read_one (l : List UInt8) : readP [l] = if trimB l = [] then [] else [lineP (trimB l)] := by
  unfold readP
  by_cases h : trimB l = []
  · simp [h]
  · simp [h]
theorem read_step {t : List UInt8} (hok : TextOk t) {L : List (List UInt8)} (hL : splitC 10 [] t = L) {i : Nat} (h : i < L.length) (hl : trimB L[i] ≠ []) :
    LineOk (trimB L[i]) ∧ (lineP (trimB L[i])).2 ∉ namesQ (readP (L.take i)) ∧ (namesQ (readP (L.take i))).length + 1 ≤ 62 ∧ (∀ s ∈ setsQ (readP (L.take i)), apartR s (normR (lineP (trimB L[i])).1)) ∧ (∀ s ∈ setsQ (readP (L.take i)), s.length ≤ 10000) ∧ readP (L.take (i + 1)) = readP (L.take i) ++ [lineP (trimB L[i])] := by
  have hst : readP (L.take (i + 1)) = readP (L.take i) ++ [lineP (trimB L[i])] := by
    rw [List.take_succ_eq_append_getElem h, readP_app, read_one, if_neg hl]
  have hall : dbP t = readP (L.take i) ++ (lineP (trimB L[i]) :: readP (L.drop (i + 1))) := by
    rw [← readP_all, hL]
    conv => lhs; rw [← List.take_append_drop (i + 1) L, readP_app, hst, List.append_assoc]
    rfl
  have hmem : trimB L[i] ∈ linesP t := by
    unfold linesP
    rw [hL, List.mem_filter]
    exact ⟨List.mem_map.2 ⟨L[i], List.getElem_mem h, rfl⟩, by simpa using hl⟩
  have hnm := hok.names
  unfold namesP at hnm
  rw [hall, List.map_append, List.map_cons, ← List.cons_append] at hnm
  have hlen : (dbP t).length ≤ 60 := by unfold dbP; rw [List.length_map]; exact hok.few
  rw [hall, List.length_append, List.length_cons] at hlen
  have hap := hok.apart
  rw [hall, List.pairwise_append] at hap
  refine ⟨hok.lines _ hmem, fun hx => ?_, ?_, fun s hs => ?_, fun s hs => ?_, hst⟩
  · have := (List.nodup_append.1 hnm).2.2 _ hx _ (List.mem_cons_self ..)
    exact this rfl
  · unfold namesQ
    rw [List.length_cons, List.length_map]
    omega
  · rcases List.mem_cons.1 hs with rfl | hs
    · intro x hx; cases hx
    · obtain ⟨p, hp, rfl⟩ := List.mem_map.1 hs
      exact hap.2.2 p hp _ (List.mem_cons_self ..)
  · rcases List.mem_cons.1 hs with rfl | hs
    · simp
    · have hs2 : s ∈ setsP t := by
        obtain ⟨p, hp, rfl⟩ := List.mem_map.1 hs
        unfold setsP
        exact List.mem_map.2 ⟨p, by rw [hall]; exact List.mem_append_left _ hp, rfl⟩
      have h1 := hok.all.len
      have h2 : s.length ≤ (setsP t).flatten.length := by
        obtain ⟨a, b, e⟩ := List.append_of_mem hs2
        rw [e, List.flatten_append, List.flatten_cons]
        simp only [List.length_append]
        omega
      omega
set_option maxRecDepth 100000 in
set_option maxHeartbeats 8000000 in
theorem c_New (t : List UInt8) (w : World) (hT : TabsW w) (hok : TextOk t) :
    Calls Tryz.prog 47 #[.string ⟨t.toArray⟩] w fun e w' => ∃ db, e = .returned (.tuple #[.pointer (some ⟨db, 0, none⟩), .int .i64 0, .int .i64 0]) ∧ DbIs w' db (namesP t) (rangedP t) ∧ Ext w w' := by
  have HOK := Lib.hid hok
  have HT := Lib.hid hT
  have hlen := hok.len
  have hsz : (⟨t.toArray⟩ : ByteArray).size = t.length := by rw [← len_eq]
  have hszI : (((⟨t.toArray⟩ : ByteArray).size : Nat) : Int) ≤ 65536 := by omega
  clear hok hT
  have hM0 := MapIs.new (w.alloc (.cells #[.string ⟨othB.toArray⟩] 9))
  rw [World.size_alloc] at hM0
  obtain ⟨V, hrun, hMV, hgV, hsV⟩ := hM0.put (string_keyed Tryz.underlying9) Tryz.underlying100 (fun p hp => by cases hp) (key_str othB (by decide)) (v := .int .i64 0) (fun p hp => by cases hp)
  have hn0 := World.alloc_heap_new w (.cells #[.string ⟨othB.toArray⟩] 9)
  have hx0 := (Ext.refl w).alloc (.cells #[.string ⟨othB.toArray⟩] 9)
  have hx1 := hx0.alloc (.map #[] 0)
  have hn1 := ((Ext.refl (w.alloc (.cells #[.string ⟨othB.toArray⟩] 9))).alloc (.map #[] 0)).blk hn0
  have hs1 : ((w.alloc (.cells #[.string ⟨othB.toArray⟩] 9)).alloc (.map #[] 0)).heap.size = w.heap.size + 1 + 1 := by rw [World.size_alloc, World.size_alloc]
  have hnV := (hgV.block w.heap.size (blk_lt hn1) (fun e => by have := Option.some.inj e; omega)).trans hn1
  have hxV : Ext w V := Below.grown hx1 hgV hx1.sz (fun k e => by cases e; omega)
  rw [hs1] at hsV
  have HV := Lib.hid (And.intro hMV (And.intro hnV (And.intro hxV hsV)))
  clear hM0 hMV hgV hsV hn0 hx0 hx1 hn1 hs1 hnV hxV
  have hrun2 : (Instr.mapUpdate 100 (.map (some (w.heap.size + 1))) (.string ⟨#[79, 116, 104, 101, 114]⟩) (.int .i64 0)).run Tryz.prog ((w.alloc (.cells #[.string ⟨#[79, 116, 104, 101, 114]⟩] 9)).alloc (.map #[] 0)) = .ok () V := hrun
  clear hrun
  go_enter Tryz.func47, Tryz.ntmps47
  go_wp2_with fail
  have hb1 := World.alloc_heap_new V (.cells #[.slice none 0 0] 130)
  have hx1 := (Ext.refl V).alloc (.cells #[.slice none 0 0] 130)
  have hs1 := World.size_alloc V (.cells #[.slice none 0 0] 130)
  generalize V.alloc (.cells #[.slice none 0 0] 130) = V1 at hb1 hx1 hs1 ⊢
  have hb2 := World.alloc_heap_new V1 (.cells #[.slice (some ⟨w.heap.size, 0, none⟩) 1 1, .map (some (w.heap.size + 1)), .slice (some ⟨V.heap.size, 0, none⟩) 1 1, .slice none 0 0] 104)
  have hx2 := (Ext.refl V1).alloc (.cells #[.slice (some ⟨w.heap.size, 0, none⟩) 1 1, .map (some (w.heap.size + 1)), .slice (some ⟨V.heap.size, 0, none⟩) 1 1, .slice none 0 0] 104)
  generalize V1.alloc (.cells #[.slice (some ⟨w.heap.size, 0, none⟩) 1 1, .map (some (w.heap.size + 1)), .slice (some ⟨V.heap.size, 0, none⟩) 1 1, .slice none 0 0] 104) = V2 at hb2 hx2 ⊢
  rw [hs1] at hb2
  have hb1' := hx2.blk hb1
  have hst : DbSt w.heap.size V2 (V.heap.size + 1) (w.heap.size + 1) (.slice (some ⟨w.heap.size, 0, none⟩) 1 1) (.slice (some ⟨V.heap.size, 0, none⟩) 1 1) [othB] [[]] :=
    ⟨hb2, ⟨rfl, .inr ⟨w.heap.size, 1, _, rfl, Nat.le_refl _, (hx1.trans hx2).blk HV.out.2.1, Nat.le_refl _, by unfold maxLen; omega, rfl, rfl⟩⟩, HV.out.1.ext (hx1.trans hx2),
      ⟨[.slice none 0 0], ⟨rfl, .inr ⟨V.heap.size, 1, _, rfl, by have := HV.out.2.2.1.sz; exact this, hb1', Nat.le_refl _, by unfold maxLen; omega, rfl, rfl⟩⟩, fun i u l a b => by
        match i, a, b with
        | 0, a, b =>
          obtain rfl := Option.some.inj a
          obtain rfl := Option.some.inj b
          exact RHold.none _⟩, ⟨by have := HV.out.2.2.1.sz; omega, by omega⟩, rfl, by decide, fun x hx => by rw [List.mem_singleton] at hx; subst hx; decide⟩
  have hX2 := HV.out.2.2.1.trans (hx1.trans hx2)
  have hb0 : w.heap.size < V2.heap.size := blk_lt ((hx1.trans hx2).blk HV.out.2.1)
  have HST := Lib.hid (And.intro hst (And.intro hX2 (show ∀ j, (Value.slice (some ⟨w.heap.size, 0, none⟩) 1 1).ownBlock = some j → j < V2.heap.size from fun j e => by cases e; exact hb0)))
  clear hb1 hx1 hs1 hb2 hx2 hb1' hst hX2 hb0 HV hrun2
  generalize V.heap.size + 1 = db at HST ⊢
  generalize w.heap.size + 1 = mb at HST ⊢
  have HSP := Lib.hid (c_SplitW t 10 V2 (HT.out.ext HST.out.2.1) (by omega))
  obtain ⟨L, hL⟩ : ∃ L, splitC 10 [] t = L := ⟨_, rfl⟩
  have HLE := Lib.hid hL
  rw [hL] at HSP
  have hLl : L.length ≤ 70000 := by have := (splitC_len 10 t []).1; rw [hL] at this; omega
  have hLI : ((L.length : Nat) : Int) ≤ 70000 := by omega
  refine HSP.out.mono ?_
  rintro e w2 ⟨rfl, rfl⟩
  clear HSP hL
  have hx3 := (Ext.refl V2).alloc (.cells (L.map fun l => Value.string ⟨l.toArray⟩).toArray 9)
  have hb3 := World.alloc_heap_new V2 (.cells (L.map fun l => Value.string ⟨l.toArray⟩).toArray 9)
  generalize V2.alloc (.cells (L.map fun l => Value.string ⟨l.toArray⟩).toArray 9) = W1 at hx3 hb3 ⊢
  have HS1 := Lib.hid (And.intro (HST.out.1.ext hx3) (And.intro (HST.out.2.1.trans hx3) (And.intro hb3 (show ∀ j, (Value.slice (some ⟨w.heap.size, 0, none⟩) 1 1).ownBlock = some j → j ≠ V2.heap.size from fun j e => by have := HST.out.2.2 j e; omega))))
  generalize V2.heap.size = gs at hb3 HS1 ⊢
  generalize Value.slice (some ⟨w.heap.size, 0, none⟩) 1 1 = nv0 at HS1 ⊢
  clear hx3 hb3 HST
  go_wp2_with fail
  clear hlen
  go_loopw [7, 21] (fun sv iv W => ∃ (i : Nat) (nv sv : Value), iv = .int .i64 (i : Nat) ∧ i ≤ L.length ∧ Hid (DbSt w.heap.size W db mb nv sv (namesQ (readP (L.take i))) (setsQ (readP (L.take i)))) ∧ Hid (Ext w W) ∧ Hid (W.heap[gs]? = some (.cells (L.map fun l => Value.string ⟨l.toArray⟩).toArray 9 (0, 0))) ∧ Hid (∀ j, nv.ownBlock = some j → j ≠ gs)) (fun _ iv _ => L.length + 1 - (intOf iv).toNat)
  case atStart => exact ⟨0, nv0, _, rfl, Nat.zero_le _, Lib.hid HS1.out.1, Lib.hid HS1.out.2.1, Lib.hid HS1.out.2.2.1, Lib.hid HS1.out.2.2.2⟩
  case round =>
    obtain ⟨i, nv, sv, rfl, hi, HD, HX, HG, HN⟩ := hrel
    obtain ⟨W, rfl⟩ : ∃ W, W = wr := ⟨_, rfl⟩
    by_cases hlt : i < L.length
    · have hI : ((i : Nat) : Int) < (L.length : Nat) := by omega
      have hd : decide (i < L.length) = true := decide_eq_true hlt
      have hcl : W.cell? ⟨gs, i, none⟩ = some (.string ⟨L[i].toArray⟩) := by
        rw [cell_blk HG.out i]
        simp [hlt]
      have hmem : L[i] ∈ splitC 10 [] t := by rw [HLE.out]; exact List.getElem_mem hlt
      have hll : L[i].length ≤ 65536 := by have := (splitC_len 10 t []).2 _ hmem; simp at this; omega
      have hasc : ∀ x ∈ L[i], x ≠ 39 ∧ x ≠ 35 := fun x hx => by
        rcases splitC_mem 10 t [] _ hmem x hx with h1 | h1
        · cases h1
        · exact HOK.out.asc x h1
      have HST := Lib.hid (read_step HOK.out HLE.out hlt)
      have HNO := Lib.hid (show trimB L[i] = [] → readP (L.take (i + 1)) = readP (L.take i) from fun e => by rw [List.take_succ_eq_append_getElem hlt, readP_app, read_one, if_pos e, List.append_nil])
      obtain ⟨l, hl⟩ : ∃ l, L[i] = l := ⟨_, rfl⟩
      rw [hl] at hcl hll hasc HST HNO
      have HLI := Lib.hid (c_line ⟨l.toArray⟩ W (by rw [← len_eq]; show l.length ≤ _; omega) hasc)
      clear hl hmem hasc
      go_wp2_with fail
      refine HLI.out.mono ?_
      rintro e w3 ⟨rfl, hx3⟩
      have HX3 := Lib.hid hx3
      obtain ⟨tl, htl⟩ : ∃ tl, trimB l = tl := ⟨_, rfl⟩
      rw [htl] at HST HNO
      simp only [htl]
      clear hx3 HLI hcl htl
      by_cases he : tl = []
      · subst he
        go_wp2_with fail
        exact ⟨⟨i + 1, nv, sv, by simp, by omega, Lib.hid (by rw [HNO.out rfl]; exact HD.out.ext HX3.out), Lib.hid (HX.out.trans HX3.out), Lib.hid (HX3.out.blk HG.out), HN⟩, by simp only [intOf]; omega⟩
      · have hem : (tl == []) = false := by simpa using he
        have HA := Lib.hid (HST.out he)
        have hDN : (namesQ (readP (L.take i))).length + 1 ≤ 62 := HA.out.2.2.1
        clear he
        go_wp2_with fail
        refine (c_add tl w3 (HT.out.ext (HX.out.trans HX3.out)) (HD.out.ext HX3.out) (HX.out.trans HX3.out).sz HA.out.1 HA.out.2.1 hDN HA.out.2.2.2.1 HA.out.2.2.2.2.1).mono ?_
        rintro e w4 ⟨rfl, nv', sv', hd4, hk4⟩
        have hg3 := HX3.out.blk HG.out
        have HD3 := HD.out.ext HX3.out
        have hg4 := hk4.keep gs _ hg3 (fun e => by have := HD3.d; rw [← e, hg3] at this; exact absurd (Obj.cells.inj (Option.some.inj this)).2.1 (by decide)) (fun e => by obtain ⟨es, ck, hb, _⟩ := HD3.m; rw [← e, hg3] at hb; cases hb) (fun e => HN.out gs e.symm rfl) (fun e => by
          obtain ⟨vs, hvs, _⟩ := HD3.s
          obtain ⟨cur, hcur⟩ := own_cells hvs e.symm
          rw [hg3] at hcur
          cases hcur)
        have hn4 : ∀ j, nv'.ownBlock = some j → j ≠ gs := fun j e => by
          rcases hk4.nn with e2 | ⟨g, e2, h2⟩
          · rw [e] at e2; exact HN.out j e2.symm
          · rw [e] at e2
            have h3 := blk_lt hg3
            have := Option.some.inj e2
            omega
        have hx4 : Ext w w4 := Below.trans (HX.out.trans HX3.out) hk4.below
        have HF := Lib.hid (And.intro (show DbSt w.heap.size w4 db mb nv' sv' (namesQ (readP (L.take (i + 1)))) (setsQ (readP (L.take (i + 1)))) by
          rw [HA.out.2.2.2.2.2]
          simp only [namesQ, setsQ, List.map_append, List.map_cons, List.map_nil]
          exact hd4) (And.intro hx4 (And.intro hg4 hn4)))
        clear hd4 hk4 hg3 HD3 hg4 hn4 hx4 hem
        go_wp2_with fail
        exact ⟨⟨i + 1, nv', sv', by simp, by omega, Lib.hid HF.out.1, Lib.hid HF.out.2.1, Lib.hid HF.out.2.2.1, Lib.hid HF.out.2.2.2⟩, by simp only [intOf]; omega⟩
    · have hI : ¬ ((i : Nat) : Int) < (L.length : Nat) := by omega
      have hd : decide (i < L.length) = false := decide_eq_false hlt
      obtain rfl : i = L.length := by omega
      have HF := Lib.hid (show DbSt w.heap.size W db mb nv sv (namesP t) ([] :: setsP t) by
        have := HD.out
        rw [List.take_length, ← HLE.out, readP_all] at this
        exact this)
      have hmore : 1 ≤ (setsP t).length := by unfold setsP dbP; rw [List.length_map, List.length_map]; exact HOK.out.more
      have hfew : (setsP t).length ≤ 60 := by unfold setsP dbP; rw [List.length_map, List.length_map]; exact HOK.out.few
      have HMF := Lib.hid (And.intro hmore hfew)
      clear hlt hi hmore hfew HD
      go_wp2_with fail
      refine (c_close W HF.out HOK.out.all HMF.out.2 HMF.out.1).mono ?_
      rintro e w5 ⟨rfl, hdb, hb⟩
      have HE := Lib.hid (And.intro hdb (show Ext w w5 from Below.trans HX.out (hb HX.out.sz)))
      clear hdb hb
      go_wp2_with fail
      exact bodyPost_ret (v := .tuple #[.pointer (some ⟨db, 0, none⟩), .int .i64 0, .int .i64 0]) (by simp [results, Tryz.results47, go_sem]) rfl ⟨db, rfl, HE.out⟩
end Go.Proofs.YtlmkbldiicbejaaGreatDoor
end

section
namespace Go.Proofs.YtlmkbldiicbejaaGreatDoor
open Go.RowKit Go.Rp Go.Maps Go.Cl Go.Shelf

theorem getR_at : ∀ (D : List (Nat × Nat × Nat)) (i r : Nat), (∀ k (h : k < D.length), k < i → D[k].2.1 < r) → (∀ h : i < D.length, r ≤ D[i].2.1) → i ≤ D.length → getR D r = if h : i < D.length then (if D[i].1 ≤ r then D[i].2.2 else 0) else 0
  | [], i, r, _, _, hi => by
    have : i = 0 := by simpa using hi
    subst this
    rfl
  | x :: D, 0, r, _, h2, _ => by
    have := h2 (by simp)
    simp only [List.getElem_cons_zero] at this
    rw [getR, if_neg (by omega), dif_pos (by simp)]
    rfl
  | x :: D, i + 1, r, h1, h2, hi => by
    have h0 := h1 0 (by simp) (by omega)
    simp only [List.getElem_cons_zero] at h0
    rw [getR, if_pos h0, getR_at D i r (fun k h hk => by
      have := h1 (k + 1) (by simpa using h) (by omega)
      simpa using this) (fun h => by
      have := h2 (by simpa using h)
      simpa using this) (by simpa using hi)]
    by_cases hl : i < D.length
    · rw [dif_pos hl, dif_pos (by simpa using hl)]
      rfl
    · rw [dif_neg hl, dif_neg (by simpa using hl)]
set_option maxRecDepth 100000 in
set_option maxHeartbeats 4000000 in
theorem c_getCmp (x : Nat × Nat × Nat) (r : Nat) (w : World) : Calls Tryz.prog 66 #[.agg #[.int .i32 (x.1 : Nat), .int .i32 (x.2.1 : Nat), .int .i64 (x.2.2 : Nat)], .int .i32 (r : Nat)] w fun e w' => e = .returned (.int .i64 (cmpI (x.2.1 : Nat) (r : Nat))) ∧ Ext w w' := by
  have b1 := World.alloc_heap_new w (.cells #[.int .i32 (x.1 : Nat), .int .i32 (x.2.1 : Nat), .int .i64 (x.2.2 : Nat)] 123)
  have k1 := (cell_blk b1 1).trans rfl
  clear b1
  go_enter Tryz.func66, Tryz.ntmps66
  go_wp2_with fail
  refine (c_Compare _ _ _).mono ?_
  rintro e w1 ⟨rfl, rfl⟩
  go_wp2_with fail
  exact ret_one rfl rfl rfl ⟨rfl, (Ext.refl _).alloc _⟩
/-- Ranges whose ends rise. -/
def RiseD (D : List (Nat × Nat × Nat)) : Prop := D.Pairwise fun x y => x.2.1 < y.2.1
theorem RiseD.le {D : List (Nat × Nat × Nat)} (h : RiseD D) {i j : Nat} (hi : i < D.length) (hj : j < D.length) (hij : i ≤ j) : D[i].2.1 ≤ D[j].2.1 := by
  rcases Nat.lt_or_eq_of_le hij with h1 | h1
  · exact Nat.le_of_lt (List.pairwise_iff_getElem.1 h i j hi hj h1)
  · subst h1; exact Nat.le_refl _
set_option maxRecDepth 100000 in
set_option maxHeartbeats 4000000 in
theorem c_BSF (v : Value) (D : List (Nat × Nat × Nat)) (r : Nat) (w : World) (h : RdRow w v D) (hs : RiseD D) (hl : D.length ≤ 10000) :
    Calls Tryz.prog 65 #[v, .int .i32 (r : Nat), .func (.func 66) #[] #[]] w fun e w' => ∃ (i : Nat) (u : Value), e = .returned (.tuple #[.int .i64 (i : Nat), u]) ∧ i ≤ D.length ∧ (∀ k (h : k < D.length), k < i → D[k].2.1 < r) ∧ (∀ h : i < D.length, r ≤ D[i].2.1) ∧ Ext w w' := by
  obtain ⟨p, cap, rfl, hcap, hc⟩ := h
  have HC := Lib.hid hc
  have HS := Lib.hid hs
  have hlI : ((D.length : Nat) : Int) ≤ 10000 := by omega
  clear hc hs
  go_enter Tryz.func65, Tryz.ntmps65
  go_wp2_with fail
  go_loopw [9, 10, 11] (fun iv jv hv W => ∃ i j : Nat, iv = .int .i64 (i : Nat) ∧ jv = .int .i64 (j : Nat) ∧ i ≤ j ∧ j ≤ D.length ∧ Hid (∀ k (h : k < D.length), k < i → D[k].2.1 < r) ∧ Hid (∀ k (h : k < D.length), j ≤ k → r ≤ D[k].2.1) ∧ Hid (Ext w W)) (fun iv jv _ _ => (intOf jv - intOf iv).toNat)
  case atStart => exact ⟨0, D.length, rfl, rfl, Nat.zero_le _, Nat.le_refl _, Lib.hid (fun k h h2 => by omega), Lib.hid (fun k h h2 => by omega), Lib.hid (Ext.refl _)⟩
  case round =>
    obtain ⟨i, j, rfl, rfl, hij, hj, HLo, HHi, HX⟩ := hrel
    obtain ⟨W, rfl⟩ : ∃ W, W = wr := ⟨_, rfl⟩
    by_cases hlt : i < j
    · have hI : ((i : Nat) : Int) < (j : Nat) := by omega
      have hd : decide (i < j) = true := decide_eq_true hlt
      have jI : ((j : Nat) : Int) ≤ 10000 := by omega
      obtain ⟨m, hmm⟩ : ∃ m : Nat, m = (i + j) / 2 := ⟨_, rfl⟩
      have hm1 : i ≤ m := by omega
      have hm2 : m < j := by omega
      have hmd : m < D.length := by omega
      have hmI : (((i : Nat) : Int) + (j : Nat)) / 2 = (m : Nat) := by omega
      have hmJ : ((m : Nat) : Int) < (D.length : Nat) := by omega
      obtain ⟨g, rfl, hcel⟩ := HC.out (by intro e; subst e; simp at hmd)
      obtain ⟨k0, k1, k2⟩ := hcel m hmd
      have e0 := HX.out.cell k0
      have e1 := HX.out.cell k1
      have e2 := HX.out.cell k2
      obtain ⟨x, hx⟩ : ∃ x, D[m] = x := ⟨_, rfl⟩
      have HMX := Lib.hid (And.intro hx (And.intro hm1 (And.intro hm2 hmd)))
      rw [hx] at e0 e1 e2
      clear hmm hcel k0 k1 k2 hx
      go_wp2_with fail
      refine (c_getCmp x r W).mono ?_
      rintro e w1 ⟨rfl, hx1⟩
      have HX1 := Lib.hid (HX.out.trans hx1)
      clear hx1 e0 e1 e2
      by_cases hxr : x.2.1 < r
      · have hc : cmpI ((x.2.1 : Nat) : Int) (r : Nat) = -1 := by unfold cmpI; rw [if_pos (by omega)]
        rw [hc]
        clear hc
        go_wp2_with fail
        refine ⟨⟨m + 1, j, by simp, rfl, by have := HMX.out.2.2.1; omega, hj, Lib.hid (fun k h hk => ?_), HHi, HX1⟩, by have := HMX.out.2; simp only [intOf]; omega⟩
        have h1 := HS.out.le h HMX.out.2.2.2 (by omega)
        rw [HMX.out.1] at h1
        omega
      · have hc : 0 ≤ cmpI ((x.2.1 : Nat) : Int) (r : Nat) := by unfold cmpI; split <;> (try split) <;> omega
        generalize cmpI ((x.2.1 : Nat) : Int) (r : Nat) = cv at hc ⊢
        have hc2 : ¬ cv < 0 := by omega
        have hc3 : decide (cv < 0) = false := decide_eq_false hc2
        clear hc
        go_wp2_with fail
        refine ⟨⟨i, m, rfl, rfl, HMX.out.2.1, by have := HMX.out.2.2.2; omega, HLo, Lib.hid (fun k h hk => ?_), HX1⟩, by have := HMX.out.2; simp only [intOf]; omega⟩
        have h1 := HS.out.le HMX.out.2.2.2 h hk
        rw [HMX.out.1] at h1
        omega
    · have hI : ¬ ((i : Nat) : Int) < (j : Nat) := by omega
      have hd : decide (i < j) = false := decide_eq_false hlt
      obtain rfl : i = j := by omega
      clear hlt hij
      by_cases hid : i < D.length
      · have hI2 : ((i : Nat) : Int) < (D.length : Nat) := by omega
        have hd2 : decide (i < D.length) = true := decide_eq_true hid
        obtain ⟨g, rfl, hcel⟩ := HC.out (by intro e; subst e; simp at hid)
        obtain ⟨k0, k1, k2⟩ := hcel i hid
        have e0 := HX.out.cell k0
        have e1 := HX.out.cell k1
        have e2 := HX.out.cell k2
        have HLH := Lib.hid (show ∀ h : i < D.length, r ≤ D[i].2.1 from fun h => HHi.out i h (Nat.le_refl _))
        generalize D[i] = x at e0 e1 e2
        clear hcel k0 k1 k2 hid
        go_wp2_with fail
        refine (c_getCmp x r W).mono ?_
        rintro e w1 ⟨rfl, hx1⟩
        have HX1 := Lib.hid (HX.out.trans hx1)
        clear hx1 e0 e1 e2
        go_wp2_with fail
        exact ret_two rfl rfl rfl rfl ⟨i, _, rfl, hj, HLo.out, HLH.out, HX1.out⟩
      · have hI2 : ¬ ((i : Nat) : Int) < (D.length : Nat) := by omega
        have hd2 : decide (i < D.length) = false := decide_eq_false hid
        have HLH := Lib.hid (show ∀ h : i < D.length, r ≤ D[i].2.1 from fun h => absurd h hid)
        clear hid
        go_wp2_with fail
        exact ret_two rfl rfl rfl rfl (by first | exact ⟨i, _, rfl, hj, HLo.out, HLH.out, HX.out⟩ | exact ⟨i, ⟨_, rfl⟩, hj, HLo.out, HLH.out, HX.out⟩)
/-- What a number is taken for. -/
def rnN (r : Int) : Nat := if r < 0 ∨ 1114111 < r then 65533 else r.toNat
set_option maxRecDepth 100000 in
set_option maxHeartbeats 4000000 in
theorem c_Get (db : Nat) (N : List (List UInt8)) (D : List (Nat × Nat × Nat)) (r : Int) (w : World) (h : DbIs w db N D) (hs : RiseD D) (hl : D.length ≤ 10000) (hr0 : -2147483648 ≤ r) (hr1 : r ≤ 2147483647) :
    Calls Tryz.prog 53 #[.pointer (some ⟨db, 0, none⟩), .int .i32 r] w fun e w' => e = .returned (.int .i64 (getR D (rnN r) : Nat)) ∧ Ext w w' := by
  obtain ⟨nv, mb, sv, rv, hd, _, _, hrow⟩ := h.ex
  obtain ⟨q, hq⟩ : ∃ q, rnN r = q := ⟨_, rfl⟩
  have hq1 : q ≤ 1114111 := by
    rw [← hq]
    unfold rnN
    split <;> omega
  have HR := Lib.hid hrow
  have HD := Lib.hid hd
  have HS := Lib.hid hs
  have d3 := (cell_blk hd 3).trans rfl
  have hqI : ((q : Nat) : Int) ≤ 1114111 := by omega
  have HQ := Lib.hid hq
  obtain ⟨p, cap, rfl, hcap, hc⟩ := hrow
  have HC := Lib.hid hc
  have hlI : ((D.length : Nat) : Int) ≤ 10000 := by omega
  clear hd hs hc hq h
  by_cases hlow : r < 0
  · obtain rfl : q = 65533 := by rw [← HQ.out]; unfold rnN; rw [if_pos (.inl hlow)]
    rw [HQ.out]; clear HQ
    go_enter Tryz.func53, Tryz.ntmps53
    go_wp2_with fail
    refine (c_BSF (.slice p D.length cap) D 65533 w HR.out HS.out hl).mono ?_
    rintro e w1 ⟨i, u, rfl, hi, hlo, hhi2, hx1⟩
    have HX1 := Lib.hid hx1
    have HG := Lib.hid (getR_at D i 65533 hlo hhi2 hi)
    have d3' := hx1.cell d3
    clear hlo hhi2 hx1 d3
    by_cases hlt : i < D.length
    · have hI : ((i : Nat) : Int) < (D.length : Nat) := by omega
      have hd : decide (i < D.length) = true := decide_eq_true hlt
      obtain ⟨g, rfl, hcel⟩ := HC.out (by intro e; subst e; simp at hlt)
      obtain ⟨k0, k1, k2⟩ := hcel i hlt
      have e0 := HX1.out.cell k0
      have e2 := HX1.out.cell k2
      have hG := HG.out
      rw [dif_pos hlt] at hG
      generalize D[i] = x at e0 e2 hG
      have HGG := Lib.hid hG
      clear hcel k0 k1 k2 hG HG
      have s3 : ∀ w', EOn (fun _ => True) w1 w' → w'.cell? ⟨db, 3, none⟩ = some (.slice (some ⟨g, 0, none⟩) D.length cap) := fun w' hx => hx.cell trivial d3'
      have s0 : ∀ w', EOn (fun _ => True) w1 w' → w'.cell? ⟨g, i * 3, none⟩ = some (.int .i32 (x.1 : Nat)) := fun w' hx => hx.cell trivial e0
      by_cases hlr : x.1 ≤ 65533
      · have hJ : ((x.1 : Nat) : Int) ≤ (65533 : Nat) := by omega
        have hJ2 : decide (x.1 ≤ 65533) = true := decide_eq_true hlr
        have HE := Lib.hid (show getR D 65533 = x.2.2 by rw [HGG.out, if_pos hlr])
        clear hlr s0 s3
        go_wp2_with fail
        exact ret_one rfl rfl rfl ⟨by rw [HE.out]; rfl, HX1.out⟩
      · have hJ : ¬ ((x.1 : Nat) : Int) ≤ (65533 : Nat) := by omega
        have hJ2 : decide (x.1 ≤ 65533) = false := decide_eq_false hlr
        have HE := Lib.hid (show getR D 65533 = 0 by rw [HGG.out, if_neg hlr])
        clear hlr s0 s3
        go_wp2_with fail
        exact ret_one rfl rfl rfl ⟨by rw [HE.out]; rfl, HX1.out⟩
    · have hI : ¬ ((i : Nat) : Int) < (D.length : Nat) := by omega
      have hd : decide (i < D.length) = false := decide_eq_false hlt
      have HE := Lib.hid (show getR D 65533 = 0 by rw [HG.out, dif_neg hlt])
      clear hlt
      go_wp2_with fail
      exact ret_one rfl rfl rfl ⟨by rw [HE.out]; rfl, HX1.out⟩
  · by_cases hhi : 1114111 < r
    · obtain rfl : q = 65533 := by rw [← HQ.out]; unfold rnN; rw [if_pos (.inr hhi)]
      rw [HQ.out]; clear HQ
      go_enter Tryz.func53, Tryz.ntmps53
      go_wp2_with fail
      refine (c_BSF (.slice p D.length cap) D 65533 w HR.out HS.out hl).mono ?_
      rintro e w1 ⟨i, u, rfl, hi, hlo, hhi2, hx1⟩
      have HX1 := Lib.hid hx1
      have HG := Lib.hid (getR_at D i 65533 hlo hhi2 hi)
      have d3' := hx1.cell d3
      clear hlo hhi2 hx1 d3
      by_cases hlt : i < D.length
      · have hI : ((i : Nat) : Int) < (D.length : Nat) := by omega
        have hd : decide (i < D.length) = true := decide_eq_true hlt
        obtain ⟨g, rfl, hcel⟩ := HC.out (by intro e; subst e; simp at hlt)
        obtain ⟨k0, k1, k2⟩ := hcel i hlt
        have e0 := HX1.out.cell k0
        have e2 := HX1.out.cell k2
        have hG := HG.out
        rw [dif_pos hlt] at hG
        generalize D[i] = x at e0 e2 hG
        have HGG := Lib.hid hG
        clear hcel k0 k1 k2 hG HG
        have s3 : ∀ w', EOn (fun _ => True) w1 w' → w'.cell? ⟨db, 3, none⟩ = some (.slice (some ⟨g, 0, none⟩) D.length cap) := fun w' hx => hx.cell trivial d3'
        have s0 : ∀ w', EOn (fun _ => True) w1 w' → w'.cell? ⟨g, i * 3, none⟩ = some (.int .i32 (x.1 : Nat)) := fun w' hx => hx.cell trivial e0
        by_cases hlr : x.1 ≤ 65533
        · have hJ : ((x.1 : Nat) : Int) ≤ (65533 : Nat) := by omega
          have hJ2 : decide (x.1 ≤ 65533) = true := decide_eq_true hlr
          have HE := Lib.hid (show getR D 65533 = x.2.2 by rw [HGG.out, if_pos hlr])
          clear hlr s0 s3
          go_wp2_with fail
          exact ret_one rfl rfl rfl ⟨by rw [HE.out]; rfl, HX1.out⟩
        · have hJ : ¬ ((x.1 : Nat) : Int) ≤ (65533 : Nat) := by omega
          have hJ2 : decide (x.1 ≤ 65533) = false := decide_eq_false hlr
          have HE := Lib.hid (show getR D 65533 = 0 by rw [HGG.out, if_neg hlr])
          clear hlr s0 s3
          go_wp2_with fail
          exact ret_one rfl rfl rfl ⟨by rw [HE.out]; rfl, HX1.out⟩
      · have hI : ¬ ((i : Nat) : Int) < (D.length : Nat) := by omega
        have hd : decide (i < D.length) = false := decide_eq_false hlt
        have HE := Lib.hid (show getR D 65533 = 0 by rw [HG.out, dif_neg hlt])
        clear hlt
        go_wp2_with fail
        exact ret_one rfl rfl rfl ⟨by rw [HE.out]; rfl, HX1.out⟩
    · have hrq : r = (q : Nat) := by
        have := HQ.out
        unfold rnN at this
        rw [if_neg (by omega)] at this
        omega
      rw [HQ.out]
      clear HQ
      subst hrq
      clear hlow hhi
      skip
      go_enter Tryz.func53, Tryz.ntmps53
      go_wp2_with fail
      refine (c_BSF (.slice p D.length cap) D q w HR.out HS.out hl).mono ?_
      rintro e w1 ⟨i, u, rfl, hi, hlo, hhi2, hx1⟩
      have HX1 := Lib.hid hx1
      have HG := Lib.hid (getR_at D i q hlo hhi2 hi)
      have d3' := hx1.cell d3
      clear hlo hhi2 hx1 d3
      by_cases hlt : i < D.length
      · have hI : ((i : Nat) : Int) < (D.length : Nat) := by omega
        have hd : decide (i < D.length) = true := decide_eq_true hlt
        obtain ⟨g, rfl, hcel⟩ := HC.out (by intro e; subst e; simp at hlt)
        obtain ⟨k0, k1, k2⟩ := hcel i hlt
        have e0 := HX1.out.cell k0
        have e2 := HX1.out.cell k2
        have hG := HG.out
        rw [dif_pos hlt] at hG
        generalize D[i] = x at e0 e2 hG
        have HGG := Lib.hid hG
        clear hcel k0 k1 k2 hG HG
        have s3 : ∀ w', EOn (fun _ => True) w1 w' → w'.cell? ⟨db, 3, none⟩ = some (.slice (some ⟨g, 0, none⟩) D.length cap) := fun w' hx => hx.cell trivial d3'
        have s0 : ∀ w', EOn (fun _ => True) w1 w' → w'.cell? ⟨g, i * 3, none⟩ = some (.int .i32 (x.1 : Nat)) := fun w' hx => hx.cell trivial e0
        by_cases hlr : x.1 ≤ q
        · have hJ : ((x.1 : Nat) : Int) ≤ (q : Nat) := by omega
          have hJ2 : decide (x.1 ≤ q) = true := decide_eq_true hlr
          have HE := Lib.hid (show getR D q = x.2.2 by rw [HGG.out, if_pos hlr])
          clear hlr s0 s3
          go_wp2_with fail
          exact ret_one rfl rfl rfl ⟨by rw [HE.out]; rfl, HX1.out⟩
        · have hJ : ¬ ((x.1 : Nat) : Int) ≤ (q : Nat) := by omega
          have hJ2 : decide (x.1 ≤ q) = false := decide_eq_false hlr
          have HE := Lib.hid (show getR D q = 0 by rw [HGG.out, if_neg hlr])
          clear hlr s0 s3
          go_wp2_with fail
          exact ret_one rfl rfl rfl ⟨by rw [HE.out]; rfl, HX1.out⟩
      · have hI : ¬ ((i : Nat) : Int) < (D.length : Nat) := by omega
        have hd : decide (i < D.length) = false := decide_eq_false hlt
        have HE := Lib.hid (show getR D q = 0 by rw [HG.out, dif_neg hlt])
        clear hlt
        go_wp2_with fail
        exact ret_one rfl rfl rfl ⟨by rw [HE.out]; rfl, HX1.out⟩
end Go.Proofs.YtlmkbldiicbejaaGreatDoor
end

section
namespace Go.Proofs.YtlmkbldiicbejaaGreatDoor
open Go.RowKit Go.Rp Go.Maps Go.Cl Go.Shelf

def strArg : Operand → List ByteArray
  | .const (.string s) => [s]
  | _ => []
def strOper (o : Oper) : List ByteArray := match o.op with
  | .call c => c.args.toList.flatMap strArg
  | _ => []
/-- The constant texts that a function's calls are handed. -/
def strsOf : Code → List ByteArray
  | .region _ ops _ => ops.toList.flatMap strOper
  | .seq a b => strsOf a ++ strsOf b
  | .cond _ a b => strsOf a ++ strsOf b
  | .block _ b => strsOf b
  | .loop b => strsOf b
  | .scope b => strsOf b
  | _ => []
noncomputable def textGp : ByteArray := (strsOf (Tryz.f145.body.getD .skip)).getD 0 ByteArray.empty
noncomputable def textWp : ByteArray := (strsOf (Tryz.f60.body.getD .skip)).getD 0 ByteArray.empty
theorem textGp_ok : textB textGp.data.toList = true := by kernel_rfl
theorem textWp_ok : textB textWp.data.toList = true := by kernel_rfl
def riseB (D : List (Nat × Nat × Nat)) : Bool := pairsB (fun x y => decide (x.2.1 < y.2.1)) D
theorem riseB_spec {D : List (Nat × Nat × Nat)} (h : riseB D = true) : RiseD D := (pairsB_spec h).imp fun h => of_decide_eq_true h
noncomputable def rngG : List (Nat × Nat × Nat) := rangedP textGp.data.toList
noncomputable def rngW : List (Nat × Nat × Nat) := rangedP textWp.data.toList
theorem rngG_rise : RiseD rngG := riseB_spec (by kernel_rfl)
theorem rngW_rise : RiseD rngW := riseB_spec (by kernel_rfl)
theorem rngG_len : rngG.length ≤ 100 := by
  have : (decide (rngG.length ≤ 100)) = true := by kernel_rfl
  exact of_decide_eq_true this
theorem rngW_len : rngW.length ≤ 100 := by
  have : (decide (rngW.length ≤ 100)) = true := by kernel_rfl
  exact of_decide_eq_true this
/-- A rune's class among letters, and among widths. -/
noncomputable def clsG (r : Nat) : Nat := getR rngG r
noncomputable def clsW (r : Nat) : Nat := getR rngW r
end Go.Proofs.YtlmkbldiicbejaaGreatDoor
end
