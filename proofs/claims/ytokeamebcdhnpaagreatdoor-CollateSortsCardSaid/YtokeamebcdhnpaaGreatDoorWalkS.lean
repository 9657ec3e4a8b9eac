/-
 Elements joined.
-/
import Derived.Test.YtokeamebcdhnpaaGreatDoorWalkQR
import Derived.Test.YtokeamebcdhnpaaGreatDoorPlainM
namespace Go.Proofs.YtokeamebcdhnpaaGreatDoor
open Go.RowKit Go.Rp Go.Shelf Go.Maps Go.Nm

/-- What may be joined: runes of a size, orders of a size. -/
def ElOk (x : El) : Prop := (0 ≤ x.ord ∧ x.ord < 256) ∧ (0 ≤ x.r ∧ x.r < 16777216) ∧ (x.bad = true → x.ord = 0)
/-- What was put out, and where the starter stands. -/
def outS (D : List El) : Option (El × List El) → List El
 | none => D
 | some (s, b) => D ++ s :: b
def posS (D : List El) : Option (El × List El) → Int
 | none => -1
 | some _ => (D.length : Nat)
theorem outS_bad {D : List El} {st : Option (El × List El)} {x : El} {t : List El} (h : x.bad = true) : D ++ J jnT st (x :: t) = (outS D st ++ [x]) ++ J jnT none t := by
 cases st with
 | none => rw [J_skip (.inl h)]; simp [outS]
 | some p => obtain ⟨s, b⟩ := p; rw [J_bad h]; simp [outS]
/-- Nothing joins: where the element goes. -/
theorem outS_none_mark {D : List El} {x : El} {t : List El} (h : 0 < x.ord) : D ++ J jnT none (x :: t) = (D ++ [x]) ++ J jnT none t := by
 rw [J_skip (.inr h)]; simp
theorem outS_none_start {D : List El} {x : El} {t : List El} (hb : ¬ x.bad = true) (h : ¬ 0 < x.ord) : D ++ J jnT none (x :: t) = D ++ J jnT (some (x, [])) t := by
 rw [J_open (by simp [hb, h])]
theorem outS_mark {D b : List El} {s x : El} {t : List El} (hb : ¬ x.bad = true) (hf : free b x = true → jnT s.r x.r = none) (h : 0 < x.ord) : D ++ J jnT (some (s, b)) (x :: t) = D ++ J jnT (some (s, b ++ [x])) t := by
 rw [J_mark hb hf h]
theorem outS_start {D b : List El} {s x : El} {t : List El} (hb : ¬ x.bad = true) (hf : free b x = true → jnT s.r x.r = none) (h : ¬ 0 < x.ord) : D ++ J jnT (some (s, b)) (x :: t) = (D ++ s :: b) ++ J jnT (some (x, [])) t := by
 rw [J_start hb hf h]; simp
theorem outS_join {D b : List El} {s x : El} {t : List El} {r : Int} (hb : ¬ x.bad = true) (hf : free b x = true) (hj : jnT s.r x.r = some r) : D ++ J jnT (some (s, b)) (x :: t) = D ++ J jnT (some ({ s with r := r }, b)) t := by
 rw [J_join hb hf hj]
/-- What the loop keeps. -/
def JS (L : List El) (i : Nat) (D : List El) (st : Option (El × List El)) : Prop := J jnT none L = D ++ J jnT st (L.drop i) ∧ (outS D st).length ≤ i ∧ ∀ y ∈ outS D st, ElOk y
theorem JS.put {L D D' : List El} {i : Nat} {st st' : Option (El × List El)} {x : El} (h : JS L i D st) (hd : L.drop i = x :: L.drop (i + 1)) (hx : ElOk x) (he : outS D' st' = outS D st ++ [x]) (e : D ++ J jnT st (x :: L.drop (i + 1)) = D' ++ J jnT st' (L.drop (i + 1))) : JS L (i + 1) D' st' := by
 refine ⟨by rw [h.1, hd, e], by rw [he, List.length_append]; have := h.2.1; simp; omega, fun y hy => ?_⟩
 rw [he] at hy
 rcases List.mem_append.1 hy with hy | hy
 ·exact h.2.2 y hy
 ·simp at hy; subst hy; exact hx
theorem JS.join {L D b : List El} {i : Nat} {s x : El} {r : Int} (h : JS L i D (some (s, b))) (hd : L.drop i = x :: L.drop (i + 1)) (hr : Utf8.valid r = true) (hb : ¬ x.bad = true) (hf : free b x = true) (hj : jnT s.r x.r = some r) : JS L (i + 1) D (some ({ s with r := r }, b)) := by
 refine ⟨by rw [h.1, hd, outS_join hb hf hj], by have := h.2.1; simp [outS] at this ⊢; omega, fun y hy => ?_⟩
 have hs := h.2.2 s (by simp [outS])
 have hr2 := valid_iff.1 hr
 simp only [outS, List.mem_append, List.mem_cons] at hy
 rcases hy with hy | rfl | hy
 ·exact h.2.2 y (by simp [outS, hy])
 ·exact ⟨hs.1, ⟨by show 0 ≤ r; omega, by show r < 16777216; omega⟩, hs.2.2⟩
 ·exact h.2.2 y (by simp [outS, hy])
theorem elCells_setr (D b : List El) (s : El) (r : Int) {dl : Nat} (h : D.length = dl) : (elCells (D ++ s :: b)).set (dl * 3) (.int .i32 r) = elCells (D ++ { s with r := r } :: b) := by
 subst h
 have e : ∀ x : El, elCells (D ++ x :: b) = elCells D ++ (elV x ++ elCells b) := fun x => by rw [elCells_append]; rfl
 rw [e, e, List.set_append_right _ _ (by rw [elCells_length]; exact Nat.le_refl _), elCells_length, Nat.sub_self]
 rfl
set_option maxRecDepth 100000 in
set_option maxHeartbeats 8000000 in
theorem c_joined (nb tB : Nat) (L : List El) (n0 : Nat) (v : Value) (w : World) (ht : NTab nb w tB) (hrow : w.ownsRow n0 146 3 v L.length (elCells L)) (hL : ∀ x ∈ L, ElOk x) (hl : L.length ≤ 1000000000) :
  Calls Tryz.prog 67 #[.pointer (some ⟨tB, 0, none⟩), v] w fun e w' => ∃ v', e = .returned v' ∧ w'.ownsRow w.heap.size 146 3 v' (J jnT none L).length (elCells (J jnT none L)) ∧ Ext w w' := by
 obtain ⟨i0, hi0, hz0, hz1, hz3⟩ := info_parts infoEl
 obtain ⟨po, capo, rfl⟩ := own_slice hrow
 have HROW := Lib.hid hrow
 have HL := Lib.hid hL
 have hlI : ((L.length : Nat) : Int) ≤ 1000000000 := by omega
 clear hrow hL
 go_enter Tryz.func67, Tryz.ntmps67
 go_wp2_with fail
 go_loopw [5, 6, 15] (fun ov sv iv W => ∃ (i : Nat) (D : List El) (st : Option (El × List El)), iv = .int .i64 (i : Nat) ∧ i ≤ L.length ∧ sv = .int .i64 (posS D st) ∧ Hid (JS L i D st) ∧ W.ownsRow w.heap.size 146 3 ov (outS D st).length (elCells (outS D st)) ∧ Ext w W) (fun _ _ iv _ => L.length + 1 - (intOf iv).toNat)
 case atStart => exact ⟨0, [], none, rfl, by omega, rfl, Lib.hid ⟨rfl, by simp [outS], by simp [outS]⟩, World.ownsRow_nil _ _ _ _, Ext.refl _⟩
 case round =>
  obtain ⟨i, D, st, rfl, hi, rfl, hst, hown, hx⟩ := hrel
  obtain ⟨pu, capu, rfl⟩ := own_slice hown
  by_cases hlt : i < L.length
  ·have hiI : ((i : Nat) : Int) < (L.length : Nat) := by omega
   have hd : decide (i < L.length) = true := decide_eq_true hlt
   obtain ⟨g, hpe, hg0, hg1, hgc⟩ := own_at HROW.out (by omega)
   subst hpe
   obtain ⟨a0, a1, a2⟩ := elCells_get L i hlt
   have c0 := hx.cell ((hgc (i * 3) (by omega)).trans a0)
   have c1 := hx.cell ((hgc (i * 3 + 1) (by omega)).trans a1)
   have c2 := hx.cell ((hgc (i * 3 + 2) (by omega)).trans a2)
   clear a0 a1 a2 hgc hg0 hg1
   have hdr : L.drop i = L[i] :: L.drop (i + 1) := List.drop_eq_getElem_cons hlt
   have hxk := HL.out L[i] (List.getElem_mem hlt)
   obtain ⟨x, hx0⟩ : ∃ x, L[i] = x := ⟨_, rfl⟩
   rw [hx0] at c0 c1 c2 hdr hxk
   have HDR := Lib.hid (And.intro hdr hxk)
   obtain ⟨xr, hxr⟩ : ∃ xr, x.r = xr := ⟨_, rfl⟩
   obtain ⟨xo, hxo⟩ : ∃ xo, x.ord = xo := ⟨_, rfl⟩
   have HXE := Lib.hid (And.intro hxr hxo)
   rw [hxr] at c0
   rw [hxo] at c1
   clear hdr hxk hx0 hxr hxo
   have HST := Lib.hid hst.out
   obtain ⟨nO, hnO⟩ : ∃ nO, (outS D st).length = nO := ⟨_, rfl⟩
   have HN := Lib.hid hnO
   rw [hnO] at hown ⊢
   have hi9 : ((i : Nat) : Int) ≤ 1000000000 := by omega
   have hno9 : ((nO : Nat) : Int) ≤ 1000000000 := by have := hst.out.2.1; omega
   clear hnO hst
   have hxa := hx.alloc (.cells #[.int .i32 xr, .int .i64 xo, .int .i64 (if x.bad = true then 1 else 0)] 146)
   have hoa := ownsRow_ext hown ((Ext.refl wr).alloc (.cells #[.int .i32 xr, .int .i64 xo, .int .i64 (if x.bad = true then 1 else 0)] 146))
   by_cases hb : x.bad = true
   ·rw [if_pos hb] at c2 hxa hoa
    have HB := Lib.hid hb
    have HWX := Lib.hid hxa
    have HOW := Lib.hid hoa
    clear hb hxa hoa
    go_wp2_with (at_builtin; refine Hid.out ?_)
    refine Lib.hid ?_
    have hx7 := (HWX.out.alloc (.cells #[.int .i32 xr, .int .i64 xo, .int .i64 1] 146))
    have hrow7 := ownsRow_ext HOW.out ((Ext.refl (wr.alloc (.cells #[.int .i32 xr, .int .i64 xo, .int .i64 1] 146))).alloc (.cells #[.int .i32 xr, .int .i64 xo, .int .i64 1] 146))
    have hnew := cell3_new (wr.alloc (.cells #[.int .i32 xr, .int .i64 xo, .int .i64 1] 146)) (.int .i32 xr) (.int .i64 xo) (.int .i64 1) 146
    try rw [show (wr.alloc (.cells #[.int .i32 xr, .int .i64 xo, .int .i64 1] 146)).heap.size = wr.heap.size + 1 by first | rfl | simp only [World.size_alloc]] at hnew
    generalize (wr.alloc (.cells #[.int .i32 xr, .int .i64 xo, .int .i64 1] 146)).alloc (.cells #[.int .i32 xr, .int .i64 xo, .int .i64 1] 146) = wq7 at hx7 hrow7 hnew ⊢
    have hlb := HST.out.2.1
    have hsz7 := hx7.sz
    have hnE := HN.out
    refine wpList_append_own _ rfl (.tmp 22) (.tmp 24) 116 rfl w.heap.size 146 i0 (.agg #[.int .i32 0, .int .i64 0, .int .i64 0]) 3 24 Tryz.underlying116 hi0 hz0 hz1 hz3 rfl (by decide) _ nO (elCells (outS D st)) rfl hrow7 ⟨wr.heap.size + 1, 0, none⟩ 1 1 [.int .i32 xr, .int .i64 xo, .int .i64 1] rfl rfl hnew (by intro u hu; simp at hu; rcases hu with rfl | rfl | rfl <;> rfl) (by unfold maxLen; omega) (by omega) (by omega) ?_
    intro v' w8 hown8 hgrow8 _
    have hx8 : Ext w w8 := Below.grown hx7 hgrow8 hx7.sz (fun k e => (hrow7.lt k e).1)
    have HO8 := Lib.hid (show w8.ownsRow w.heap.size 146 3 v' (nO + 1) (elCells (outS D st ++ [x])) ∧ Ext w w8 by
     have hcat : elCells (outS D st) ++ [.int .i32 xr, .int .i64 xo, .int .i64 1] = elCells (outS D st ++ [x]) := by
      rw [elCells_append]
      have h1 := HXE.out
      have h2 := HB.out
      simp [elCells, elV, h1.1, h1.2, h2]
     rw [← hcat]
     exact ⟨hown8, hx8⟩)
    clear hsz7 hgrow8 hown8 hx8 hrow7 hx7 hnew hlb hnE HWX HOW
    go_wp2_with fail
    go_roundw
    case rel => exact ⟨i + 1, outS D st ++ [x], none, by simp, by omega, rfl, Lib.hid (HST.out.put HDR.out.1 HDR.out.2 rfl (outS_bad HB.out)), by show World.ownsRow _ _ _ _ _ (outS D st ++ [x]).length (elCells (outS D st ++ [x])); rw [List.length_append, HN.out]; exact HO8.out.1, HO8.out.2⟩
    case measure => simp [intOf]; omega
   ·rw [if_neg hb] at c2 hxa hoa
    have HB := Lib.hid hb
    have HWX := Lib.hid hxa
    have HOW := Lib.hid hoa
    clear hb hxa hoa
    have hord := HDR.out.2.1
    rw [HXE.out.2] at hord
    cases st with
    | none =>
     rw [show posS D none = -1 from rfl]
     by_cases ho : xo = 0
     ·subst ho
      go_wp2_with (at_builtin; refine Hid.out ?_)
      refine Lib.hid ?_
      have hx7 := (HWX.out.alloc (.cells #[.int .i32 xr, .int .i64 0, .int .i64 0] 146))
      have hrow7 := ownsRow_ext HOW.out ((Ext.refl (wr.alloc (.cells #[.int .i32 xr, .int .i64 0, .int .i64 0] 146))).alloc (.cells #[.int .i32 xr, .int .i64 0, .int .i64 0] 146))
      have hnew := cell3_new (wr.alloc (.cells #[.int .i32 xr, .int .i64 0, .int .i64 0] 146)) (.int .i32 xr) (.int .i64 0) (.int .i64 0) 146
      try rw [show (wr.alloc (.cells #[.int .i32 xr, .int .i64 0, .int .i64 0] 146)).heap.size = wr.heap.size + 1 by first | rfl | simp only [World.size_alloc]] at hnew
      generalize (wr.alloc (.cells #[.int .i32 xr, .int .i64 0, .int .i64 0] 146)).alloc (.cells #[.int .i32 xr, .int .i64 0, .int .i64 0] 146) = wq7 at hx7 hrow7 hnew ⊢
      have hlb := HST.out.2.1
      have hsz7 := hx7.sz
      have hnE := HN.out
      refine wpList_append_own _ rfl (.tmp 77) (.tmp 79) 116 rfl w.heap.size 146 i0 (.agg #[.int .i32 0, .int .i64 0, .int .i64 0]) 3 24 Tryz.underlying116 hi0 hz0 hz1 hz3 rfl (by decide) _ nO (elCells (outS D none)) rfl hrow7 ⟨wr.heap.size + 1, 0, none⟩ 1 1 [.int .i32 xr, .int .i64 0, .int .i64 0] rfl rfl hnew (by intro u hu; simp at hu; rcases hu with rfl | rfl | rfl <;> rfl) (by unfold maxLen; omega) (by omega) (by omega) ?_
      intro v' w8 hown8 hgrow8 _
      have hx8 : Ext w w8 := Below.grown hx7 hgrow8 hx7.sz (fun k e => (hrow7.lt k e).1)
      have HO8 := Lib.hid (show w8.ownsRow w.heap.size 146 3 v' (nO + 1) (elCells (outS D none ++ [x])) ∧ Ext w w8 by
       have hcat : elCells (outS D none) ++ [.int .i32 xr, .int .i64 0, .int .i64 0] = elCells (outS D none ++ [x]) := by
        rw [elCells_append]
        have h1 := HXE.out
        have h2 := HB.out
        simp [elCells, elV, h1.1, h1.2, h2]
       rw [← hcat]
       exact ⟨hown8, hx8⟩)
      clear hsz7 hgrow8 hown8 hx8 hrow7 hx7 hnew hlb hnE HWX HOW
      go_wp2_with fail
      go_roundw
      case rel => exact ⟨i + 1, D, some (x, []), by simp, by omega, by rw [← HN.out]; rfl, Lib.hid (HST.out.put HDR.out.1 HDR.out.2 rfl (outS_none_start HB.out (by rw [HXE.out.2]; omega))), by show World.ownsRow _ _ _ _ _ (D ++ [x]).length (elCells (D ++ [x])); rw [List.length_append, show D.length = nO from HN.out]; exact HO8.out.1, HO8.out.2⟩
      case measure => simp [intOf]; omega
     ·have hop : 0 < xo := by omega
      have hob : (xo == 0) = false := by simpa using ho
      clear ho
      go_wp2_with (at_builtin; refine Hid.out ?_)
      refine Lib.hid ?_
      have hx7 := (HWX.out.alloc (.cells #[.int .i32 xr, .int .i64 xo, .int .i64 0] 146))
      have hrow7 := ownsRow_ext HOW.out ((Ext.refl (wr.alloc (.cells #[.int .i32 xr, .int .i64 xo, .int .i64 0] 146))).alloc (.cells #[.int .i32 xr, .int .i64 xo, .int .i64 0] 146))
      have hnew := cell3_new (wr.alloc (.cells #[.int .i32 xr, .int .i64 xo, .int .i64 0] 146)) (.int .i32 xr) (.int .i64 xo) (.int .i64 0) 146
      try rw [show (wr.alloc (.cells #[.int .i32 xr, .int .i64 xo, .int .i64 0] 146)).heap.size = wr.heap.size + 1 by first | rfl | simp only [World.size_alloc]] at hnew
      generalize (wr.alloc (.cells #[.int .i32 xr, .int .i64 xo, .int .i64 0] 146)).alloc (.cells #[.int .i32 xr, .int .i64 xo, .int .i64 0] 146) = wq7 at hx7 hrow7 hnew ⊢
      have hlb := HST.out.2.1
      have hsz7 := hx7.sz
      have hnE := HN.out
      refine wpList_append_own _ rfl (.tmp 77) (.tmp 79) 116 rfl w.heap.size 146 i0 (.agg #[.int .i32 0, .int .i64 0, .int .i64 0]) 3 24 Tryz.underlying116 hi0 hz0 hz1 hz3 rfl (by decide) _ nO (elCells (outS D none)) rfl hrow7 ⟨wr.heap.size + 1, 0, none⟩ 1 1 [.int .i32 xr, .int .i64 xo, .int .i64 0] rfl rfl hnew (by intro u hu; simp at hu; rcases hu with rfl | rfl | rfl <;> rfl) (by unfold maxLen; omega) (by omega) (by omega) ?_
      intro v' w8 hown8 hgrow8 _
      have hx8 : Ext w w8 := Below.grown hx7 hgrow8 hx7.sz (fun k e => (hrow7.lt k e).1)
      have HO8 := Lib.hid (show w8.ownsRow w.heap.size 146 3 v' (nO + 1) (elCells (outS D none ++ [x])) ∧ Ext w w8 by
       have hcat : elCells (outS D none) ++ [.int .i32 xr, .int .i64 xo, .int .i64 0] = elCells (outS D none ++ [x]) := by
        rw [elCells_append]
        have h1 := HXE.out
        have h2 := HB.out
        simp [elCells, elV, h1.1, h1.2, h2]
       rw [← hcat]
       exact ⟨hown8, hx8⟩)
      clear hsz7 hgrow8 hown8 hx8 hrow7 hx7 hnew hlb hnE HWX HOW
      go_wp2_with fail
      go_roundw
      case rel => exact ⟨i + 1, D ++ [x], none, by simp, by omega, rfl, Lib.hid (HST.out.put HDR.out.1 HDR.out.2 rfl (outS_none_mark (by rw [HXE.out.2]; omega))), by show World.ownsRow _ _ _ _ _ (D ++ [x]).length (elCells (D ++ [x])); rw [List.length_append, show D.length = nO from HN.out]; exact HO8.out.1, HO8.out.2⟩
      case measure => simp [intOf]; omega
    | some p =>
     obtain ⟨s, b⟩ := p
     obtain ⟨n1, rfl⟩ : ∃ n1, nO = n1 + 1 := ⟨D.length + b.length, by rw [← HN.out]; simp [outS]; omega⟩
     have hn19 : ((n1 : Nat) : Int) ≤ 1000000000 := by omega
     clear hno9
     have hlenO := HN.out
     have hDb : D.length + b.length = n1 := by simp [outS] at hlenO; omega
     have HDB := Lib.hid hDb
     obtain ⟨gu, rfl, hu0, hu1, huc⟩ := own_at hown (by omega)
     have hzi : n1 < (outS D (some (s, b))).length := by omega
     have hsi : D.length < (outS D (some (s, b))).length := by omega
     obtain ⟨z, hz⟩ : ∃ z, (outS D (some (s, b)))[n1] = z := ⟨_, rfl⟩
     have hs : (outS D (some (s, b)))[D.length] = s := by simp [outS]
     obtain ⟨f0, f1, f2⟩ := elCells_get _ n1 hzi
     obtain ⟨f3, -, -⟩ := elCells_get _ D.length hsi
     rw [hz] at f0 f1 f2
     rw [hs] at f3
     have z0 := (huc (n1 * 3) (by omega)).trans f0
     have z1 := (huc (n1 * 3 + 1) (by omega)).trans f1
     have z2 := (huc (n1 * 3 + 2) (by omega)).trans f2
     have s0 := (huc (D.length * 3) (by omega)).trans f3
     have HFR := Lib.hid (show (b = [] → free b x = true) ∧ (b ≠ [] → free b x = decide (0 < x.ord ∧ z.ord < x.ord)) by
      refine ⟨fun e => by rw [e]; rfl, fun e => ?_⟩
      have : b.getLast? = some z := by
       have hb0 : b.length ≠ 0 := fun h => e (List.length_eq_zero_iff.1 h)
       have h1 : (D ++ s :: b)[n1]? = some z := by
        rw [← hz]
        exact List.getElem?_eq_getElem hzi
       rw [List.getElem?_append_right (by omega), show n1 - D.length = (b.length - 1) + 1 by omega, List.getElem?_cons_succ] at h1
       rw [List.getLast?_eq_getElem?, h1]
      unfold free
      rw [this])
     have hsr := HST.out.2.2 s (by simp [outS])
     obtain ⟨sr, hsre⟩ : ∃ sr, s.r = sr := ⟨_, rfl⟩
     obtain ⟨zr, hzr⟩ : ∃ zr, z.r = zr := ⟨_, rfl⟩
     obtain ⟨zo, hzo⟩ : ∃ zo, z.ord = zo := ⟨_, rfl⟩
     obtain ⟨zz, hzz⟩ : ∃ zz : Int, (if z.bad = true then 1 else 0) = zz := ⟨_, rfl⟩
     obtain ⟨dl, hdl⟩ : ∃ dl, D.length = dl := ⟨_, rfl⟩
     have HSR := Lib.hid hsr.2.1
     have HSE := Lib.hid (And.intro hsre (And.intro hzo hdl))
     rw [show posS D (some (s, b)) = ((dl : Nat) : Int) from congrArg Int.ofNat hdl]
     rw [hzr] at z0
     rw [hzo] at z1
     rw [hzz] at z2
     rw [hsre] at s0
     rw [hdl] at s0
     rw [hsre] at HSR
     have hdn : ((dl : Nat) : Int) ≤ (n1 : Nat) := by omega
     have hxr := HDR.out.2.2.1
     rw [HXE.out.1] at hxr
     have HXR := Lib.hid hxr
     have HU := Lib.hid hu0
     clear hlenO hDb hu0 huc hzi hsi hz hs f0 f1 f2 f3 hsr hsre hzr hzo hzz hdl hxr
     by_cases hbe : b = []
     ·subst hbe
      obtain rfl : dl = n1 := by have h1 := HDB.out; have h2 := HSE.out.2.2; rw [List.length_nil] at h1; omega
      obtain rfl : zr = sr := by
       rw [z0] at s0
       simpa using s0
      clear hdn s0
      go_wp2_with fail
      have hbx := World.alloc_heap_new wr (.cells #[.int .i32 xr, .int .i64 xo, .int .i64 0] 146)
      have hbx4 := (Ext.alloc (Ext.refl (wr.alloc (.cells #[.int .i32 xr, .int .i64 xo, .int .i64 0] 146))) (.cells #[.int .i32 zr, .int .i64 zo, .int .i64 zz] 146)).blk hbx
      have hx4 := HWX.out.alloc (.cells #[.int .i32 zr, .int .i64 zo, .int .i64 zz] 146)
      have ho4 := ownsRow_ext HOW.out ((Ext.refl (wr.alloc (.cells #[.int .i32 xr, .int .i64 xo, .int .i64 0] 146))).alloc (.cells #[.int .i32 zr, .int .i64 zo, .int .i64 zz] 146))
      have s4 := (((Ext.refl wr).alloc (.cells #[.int .i32 xr, .int .i64 xo, .int .i64 0] 146)).alloc (.cells #[.int .i32 zr, .int .i64 zo, .int .i64 zz] 146)).cell z0
      clear hbx c0 c1 c2 z0 z1 z2 HWX HOW hown hx hu1
      generalize (wr.alloc (.cells #[.int .i32 xr, .int .i64 xo, .int .i64 0] 146)).alloc (.cells #[.int .i32 zr, .int .i64 zo, .int .i64 zz] 146) = w4 at hbx4 hx4 ho4 s4 ⊢
      generalize wr.heap.size = xb at hbx4 ⊢
      have t0 : ∀ w', EOn (fun _ => True) w4 w' → w'.cell? ⟨xb, 0, none⟩ = some (.int .i32 xr) := fun w' h => h.cell trivial ((cell_blk hbx4 0).trans rfl)
      have t1 : ∀ w', EOn (fun _ => True) w4 w' → w'.cell? ⟨gu, dl * 3, none⟩ = some (.int .i32 zr) := fun w' h => h.cell trivial s4
      have H4 := Lib.hid (And.intro hbx4 (And.intro hx4 (And.intro ho4 s4)))
      clear hbx4 hx4 ho4 s4
      refine wp_lex (fun _ => True) [true, true, true, true, true, true, true, true, false, true, true, true, true, true] (by kernel_rfl) (by kernel_rfl) ?_
      repeat first
       | refine wpG_move' ?_
       | refine wpG_assign' ?_
       | refine wpG_val' ?_
       | refine wpG_no' ?_
      try refine wpG_val (by rfl) (fun w' hx => (by go_simp; exact (if_pos (by omega)).trans rfl)) (by simp only [Act.put, List.setIfInBounds_toArray, List.set_cons_succ, List.set_cons_zero]; rfl) ?_
      repeat first
       | refine wpG_move' ?_
       | refine wpG_assign' ?_
       | refine wpG_val' ?_
       | refine wpG_no' ?_
      clear t0 t1
      refine wpG_do (by rfl) (fun w5 hx5 K hK => ?_)
      go_wp2_with fail
      refine (c_join nb tB zr xr w5 (ht.ext (Ext.trans H4.out.2.1 hx5)) HSR.out HXR.out).mono ?_
      rintro e w6 ⟨rfl, hx6⟩
      obtain ⟨rj, hrj⟩ : ∃ rj, (jnT zr xr).getD 0 = rj := ⟨_, rfl⟩
      obtain ⟨oj, hoj⟩ : ∃ oj, (jnT zr xr).isSome = oj := ⟨_, rfl⟩
      have HJ := Lib.hid (And.intro hrj hoj)
      rw [hrj, hoj]
      clear hrj hoj
      refine hK _ _ ⟨EOn.of_ext hx6, ?_⟩
      have hx46 := Ext.trans hx5 hx6
      clear hK hx5 hx6
      repeat first
       | refine wpG_move' ?_
       | refine wpG_assign' ?_
       | refine wpG_val' ?_
       | refine wpG_no' ?_
      refine wpG_end (fun w7 hx7 => ?_)
      have hx47 := Ext.trans hx46 hx7
      have hbx7 := hx47.blk H4.out.1
      have c0 := (cell_blk hbx7 0).trans rfl
      have c1 := (cell_blk hbx7 1).trans rfl
      have c2 := (cell_blk hbx7 2).trans rfl
      have HWX := Lib.hid (H4.out.2.1.trans hx47)
      have hown := ownsRow_ext H4.out.2.2.1 hx47
      have c3 := hx47.cell H4.out.2.2.2
      have HOW := Lib.hid hown
      clear H4 hx46 hx7 hx47 hbx7
      cases oj with
      | true =>
       have HJS := Lib.hid (show jnT s.r x.r = some rj by
        have h1 := HJ.out
        rw [HSE.out.1, HXE.out.1]
        cases hc : jnT zr xr with
        | none => rw [hc] at h1; exact absurd h1.2 (by simp)
        | some r => rw [hc] at h1; rw [← h1.1]; rfl)
       have hfz := hown.frozenAt (dl * 3)
       have HS7 := Lib.hid (show (w7.setCell ⟨gu, dl * 3, none⟩ (.int .i32 rj)).ownsRow w.heap.size 146 3 (.slice (some ⟨gu, 0, none⟩) (dl + 1) capu) (outS D (some ({ s with r := rj }, []))).length (elCells (outS D (some ({ s with r := rj }, [])))) by
        have h1 := (hown.stored (dl * 3) (.int .i32 rj)).1
        have h2 := elCells_setr D [] s rj HSE.out.2.2
        have h3 : (outS D (some ({ s with r := rj }, []))).length = dl + 1 := by rw [← HN.out]; simp [outS]
        rw [h3]
        simp only [outS] at h1 ⊢
        rw [h2] at h1
        exact h1)
       have HX7 := Lib.hid (show Ext w (w7.setCell ⟨gu, dl * 3, none⟩ (.int .i32 rj)) from HWX.out.setCell HU.out _)
       clear hown
       go_wp2_with fail
       refine gQ_normal ?_
       go_wp2_with fail
       go_roundw
       case rel => exact ⟨i + 1, D, some ({ s with r := rj }, []), by simp, by omega, by rw [show posS D (some ({ s with r := rj }, [])) = ((dl : Nat) : Int) from congrArg Int.ofNat HSE.out.2.2], Lib.hid (HST.out.join HDR.out.1 (jnT_valid _ _ _ HJS.out) HB.out (show free [] x = true from rfl) HJS.out), HS7.out, HX7.out⟩
       case measure => simp [intOf]; omega
      | false =>
       have HNO := Lib.hid (show jnT s.r x.r = none by
        have h1 := HJ.out
        rw [HSE.out.1, HXE.out.1]
        cases hc : jnT zr xr with
        | none => rfl
        | some r => rw [hc] at h1; exact absurd h1.2 (by simp))
       go_wp2_with fail
       refine gQ_normal ?_
       by_cases ho : xo = 0
       ·subst ho
        clear hown
        go_wp2_with (at_builtin; refine Hid.out ?_)
        refine Lib.hid ?_
        have hx7 := (HWX.out.alloc (.cells #[.int .i32 xr, .int .i64 0, .int .i64 0] 146))
        have hrow7 := ownsRow_ext HOW.out ((Ext.refl w7).alloc (.cells #[.int .i32 xr, .int .i64 0, .int .i64 0] 146))
        have hnew := cell3_new w7 (.int .i32 xr) (.int .i64 0) (.int .i64 0) 146
        try rw [show w7.heap.size = w7.heap.size by first | rfl | simp only [World.size_alloc]] at hnew
        generalize w7.alloc (.cells #[.int .i32 xr, .int .i64 0, .int .i64 0] 146) = wq7 at hx7 hrow7 hnew ⊢
        have hlb := HST.out.2.1
        have hsz7 := hx7.sz
        have hnE := HN.out
        refine wpList_append_own _ rfl (.tmp 77) (.tmp 79) 116 rfl w.heap.size 146 i0 (.agg #[.int .i32 0, .int .i64 0, .int .i64 0]) 3 24 Tryz.underlying116 hi0 hz0 hz1 hz3 rfl (by decide) _ (dl + 1) (elCells (outS D (some (s, [])))) rfl hrow7 ⟨w7.heap.size, 0, none⟩ 1 1 [.int .i32 xr, .int .i64 0, .int .i64 0] rfl rfl hnew (by intro u hu; simp at hu; rcases hu with rfl | rfl | rfl <;> rfl) (by unfold maxLen; omega) (by omega) (by omega) ?_
        intro v' w8 hown8 hgrow8 _
        have hx8 : Ext w w8 := Below.grown hx7 hgrow8 hx7.sz (fun k e => (hrow7.lt k e).1)
        have HO8 := Lib.hid (show w8.ownsRow w.heap.size 146 3 v' ((dl + 1) + 1) (elCells (outS D (some (s, [])) ++ [x])) ∧ Ext w w8 by
         have hcat : elCells (outS D (some (s, []))) ++ [.int .i32 xr, .int .i64 0, .int .i64 0] = elCells (outS D (some (s, [])) ++ [x]) := by
          rw [elCells_append]
          have h1 := HXE.out
          have h2 := HB.out
          simp [elCells, elV, h1.1, h1.2, h2]
         rw [← hcat]
         exact ⟨hown8, hx8⟩)
        clear hsz7 hgrow8 hown8 hx8 hrow7 hx7 hnew hlb hnE HWX HOW
        go_wp2_with fail
        go_roundw
        case rel => exact ⟨i + 1, D ++ s :: [], some (x, []), by simp, by omega, by rw [show posS (D ++ s :: []) (some (x, [])) = ((dl + 1 : Nat) : Int) from congrArg Int.ofNat HN.out]; simp, Lib.hid (HST.out.put HDR.out.1 HDR.out.2 rfl (outS_start HB.out (fun _ => HNO.out) (by rw [HXE.out.2]; omega))), by show World.ownsRow _ _ _ _ _ ((D ++ s :: []) ++ [x]).length (elCells ((D ++ s :: []) ++ [x])); rw [List.length_append, show (D ++ s :: []).length = dl + 1 from HN.out]; exact HO8.out.1, HO8.out.2⟩
        case measure => simp [intOf]; omega
       ·have hop : 0 < xo := by omega
        have hob : (xo == 0) = false := by simpa using ho
        clear ho hown
        go_wp2_with (at_builtin; refine Hid.out ?_)
        refine Lib.hid ?_
        have hx7 := (HWX.out.alloc (.cells #[.int .i32 xr, .int .i64 xo, .int .i64 0] 146))
        have hrow7 := ownsRow_ext HOW.out ((Ext.refl w7).alloc (.cells #[.int .i32 xr, .int .i64 xo, .int .i64 0] 146))
        have hnew := cell3_new w7 (.int .i32 xr) (.int .i64 xo) (.int .i64 0) 146
        try rw [show w7.heap.size = w7.heap.size by first | rfl | simp only [World.size_alloc]] at hnew
        generalize w7.alloc (.cells #[.int .i32 xr, .int .i64 xo, .int .i64 0] 146) = wq7 at hx7 hrow7 hnew ⊢
        have hlb := HST.out.2.1
        have hsz7 := hx7.sz
        have hnE := HN.out
        refine wpList_append_own _ rfl (.tmp 77) (.tmp 79) 116 rfl w.heap.size 146 i0 (.agg #[.int .i32 0, .int .i64 0, .int .i64 0]) 3 24 Tryz.underlying116 hi0 hz0 hz1 hz3 rfl (by decide) _ (dl + 1) (elCells (outS D (some (s, [])))) rfl hrow7 ⟨w7.heap.size, 0, none⟩ 1 1 [.int .i32 xr, .int .i64 xo, .int .i64 0] rfl rfl hnew (by intro u hu; simp at hu; rcases hu with rfl | rfl | rfl <;> rfl) (by unfold maxLen; omega) (by omega) (by omega) ?_
        intro v' w8 hown8 hgrow8 _
        have hx8 : Ext w w8 := Below.grown hx7 hgrow8 hx7.sz (fun k e => (hrow7.lt k e).1)
        have HO8 := Lib.hid (show w8.ownsRow w.heap.size 146 3 v' ((dl + 1) + 1) (elCells (outS D (some (s, [])) ++ [x])) ∧ Ext w w8 by
         have hcat : elCells (outS D (some (s, []))) ++ [.int .i32 xr, .int .i64 xo, .int .i64 0] = elCells (outS D (some (s, [])) ++ [x]) := by
          rw [elCells_append]
          have h1 := HXE.out
          have h2 := HB.out
          simp [elCells, elV, h1.1, h1.2, h2]
         rw [← hcat]
         exact ⟨hown8, hx8⟩)
        clear hsz7 hgrow8 hown8 hx8 hrow7 hx7 hnew hlb hnE HWX HOW
        go_wp2_with fail
        go_roundw
        case rel => exact ⟨i + 1, D, some (s, [] ++ [x]), by simp, by omega, by rw [show posS D (some (s, [] ++ [x])) = ((dl : Nat) : Int) from congrArg Int.ofNat HSE.out.2.2], Lib.hid (HST.out.put HDR.out.1 HDR.out.2 (by simp [outS]) (outS_mark HB.out (fun _ => HNO.out) (by rw [HXE.out.2]; omega))), by
         have e : outS D (some (s, [] ++ [x])) = (D ++ s :: []) ++ [x] := by simp [outS]
         rw [e, List.length_append, show (D ++ s :: []).length = dl + 1 from HN.out]; exact HO8.out.1, HO8.out.2⟩
        case measure => simp [intOf]; omega
     ·have hdlt : ((dl : Nat) : Int) < (n1 : Nat) := by
       have h0 : b.length ≠ 0 := fun h => hbe (List.length_eq_zero_iff.1 h)
       have h1 := HDB.out
       have h2 := HSE.out.2.2
       omega
      have hdne : (((dl : Nat) : Int) == ((n1 : Nat) : Int)) = false := by simp; omega
      have hdne2 : ¬ dl = n1 := by omega
      have HBE := Lib.hid hbe
      clear hbe
      by_cases ho : xo = 0
      ·subst ho
       have HFF := Lib.hid (show free b x = true → jnT s.r x.r = none by
        intro h
        rw [HFR.out.2 HBE.out] at h
        have h1 := HXE.out.2
        have h2 := of_decide_eq_true h
        omega)
       go_wp2_with fail
       have hbx := World.alloc_heap_new wr (.cells #[.int .i32 xr, .int .i64 0, .int .i64 0] 146)
       have hbx4 := (Ext.alloc (Ext.refl (wr.alloc (.cells #[.int .i32 xr, .int .i64 0, .int .i64 0] 146))) (.cells #[.int .i32 zr, .int .i64 zo, .int .i64 zz] 146)).blk hbx
       have hx4 := HWX.out.alloc (.cells #[.int .i32 zr, .int .i64 zo, .int .i64 zz] 146)
       have ho4 := ownsRow_ext HOW.out ((Ext.refl (wr.alloc (.cells #[.int .i32 xr, .int .i64 0, .int .i64 0] 146))).alloc (.cells #[.int .i32 zr, .int .i64 zo, .int .i64 zz] 146))
       have s4 := (((Ext.refl wr).alloc (.cells #[.int .i32 xr, .int .i64 0, .int .i64 0] 146)).alloc (.cells #[.int .i32 zr, .int .i64 zo, .int .i64 zz] 146)).cell s0
       clear hbx c0 c1 c2 z0 z1 z2 HWX HOW hown hx hu1
       generalize (wr.alloc (.cells #[.int .i32 xr, .int .i64 0, .int .i64 0] 146)).alloc (.cells #[.int .i32 zr, .int .i64 zo, .int .i64 zz] 146) = w4 at hbx4 hx4 ho4 s4 ⊢
       generalize wr.heap.size = xb at hbx4 ⊢
       have t0 : ∀ w', EOn (fun _ => True) w4 w' → w'.cell? ⟨xb, 0, none⟩ = some (.int .i32 xr) := fun w' h => h.cell trivial ((cell_blk hbx4 0).trans rfl)
       have t1 : ∀ w', EOn (fun _ => True) w4 w' → w'.cell? ⟨gu, dl * 3, none⟩ = some (.int .i32 sr) := fun w' h => h.cell trivial s4
       have H4 := Lib.hid (And.intro hbx4 (And.intro hx4 (And.intro ho4 s4)))
       clear hbx4 hx4 ho4 s4
       refine wp_lex (fun _ => True) [true, true, true, true, true, true, true, true, false, true, true, true, true, true] (by kernel_rfl) (by kernel_rfl) ?_
       repeat first
        | refine wpG_move' ?_
        | refine wpG_assign' ?_
        | refine wpG_val' ?_
        | refine wpG_no' ?_
       try refine wpG_val (by rfl) (fun w' hx => (by go_simp; exact (if_pos (by omega)).trans rfl)) (by simp only [Act.put, List.setIfInBounds_toArray, List.set_cons_succ, List.set_cons_zero]; rfl) ?_
       repeat first
        | refine wpG_move' ?_
        | refine wpG_assign' ?_
        | refine wpG_val' ?_
        | refine wpG_no' ?_
       clear t0 t1
       refine wpG_do (by rfl) (fun w5 hx5 K hK => ?_)
       go_wp2_with fail
       refine (c_join nb tB sr xr w5 (ht.ext (Ext.trans H4.out.2.1 hx5)) HSR.out HXR.out).mono ?_
       rintro e w6 ⟨rfl, hx6⟩
       obtain ⟨rj, hrj⟩ : ∃ rj, (jnT sr xr).getD 0 = rj := ⟨_, rfl⟩
       obtain ⟨oj, hoj⟩ : ∃ oj, (jnT sr xr).isSome = oj := ⟨_, rfl⟩
       have HJ := Lib.hid (And.intro hrj hoj)
       rw [hrj, hoj]
       clear hrj hoj
       refine hK _ _ ⟨EOn.of_ext hx6, ?_⟩
       have hx46 := Ext.trans hx5 hx6
       clear hK hx5 hx6
       repeat first
        | refine wpG_move' ?_
        | refine wpG_assign' ?_
        | refine wpG_val' ?_
        | refine wpG_no' ?_
       refine wpG_end (fun w7 hx7 => ?_)
       have hx47 := Ext.trans hx46 hx7
       have hbx7 := hx47.blk H4.out.1
       have c0 := (cell_blk hbx7 0).trans rfl
       have c1 := (cell_blk hbx7 1).trans rfl
       have c2 := (cell_blk hbx7 2).trans rfl
       have HWX := Lib.hid (H4.out.2.1.trans hx47)
       have hown := ownsRow_ext H4.out.2.2.1 hx47
       have c3 := hx47.cell H4.out.2.2.2
       have HOW := Lib.hid hown
       clear H4 hx46 hx7 hx47 hbx7
       cases oj with
       | true =>
        go_wp2_with fail
        refine gQ_normal ?_
        clear hown
        go_wp2_with (at_builtin; refine Hid.out ?_)
        refine Lib.hid ?_
        have hx7 := (HWX.out.alloc (.cells #[.int .i32 xr, .int .i64 0, .int .i64 0] 146))
        have hrow7 := ownsRow_ext HOW.out ((Ext.refl w7).alloc (.cells #[.int .i32 xr, .int .i64 0, .int .i64 0] 146))
        have hnew := cell3_new w7 (.int .i32 xr) (.int .i64 0) (.int .i64 0) 146
        try rw [show w7.heap.size = w7.heap.size by first | rfl | simp only [World.size_alloc]] at hnew
        generalize w7.alloc (.cells #[.int .i32 xr, .int .i64 0, .int .i64 0] 146) = wq7 at hx7 hrow7 hnew ⊢
        have hlb := HST.out.2.1
        have hsz7 := hx7.sz
        have hnE := HN.out
        refine wpList_append_own _ rfl (.tmp 77) (.tmp 79) 116 rfl w.heap.size 146 i0 (.agg #[.int .i32 0, .int .i64 0, .int .i64 0]) 3 24 Tryz.underlying116 hi0 hz0 hz1 hz3 rfl (by decide) _ (n1 + 1) (elCells (outS D (some (s, b)))) rfl hrow7 ⟨w7.heap.size, 0, none⟩ 1 1 [.int .i32 xr, .int .i64 0, .int .i64 0] rfl rfl hnew (by intro u hu; simp at hu; rcases hu with rfl | rfl | rfl <;> rfl) (by unfold maxLen; omega) (by omega) (by omega) ?_
        intro v' w8 hown8 hgrow8 _
        have hx8 : Ext w w8 := Below.grown hx7 hgrow8 hx7.sz (fun k e => (hrow7.lt k e).1)
        have HO8 := Lib.hid (show w8.ownsRow w.heap.size 146 3 v' ((n1 + 1) + 1) (elCells (outS D (some (s, b)) ++ [x])) ∧ Ext w w8 by
         have hcat : elCells (outS D (some (s, b))) ++ [.int .i32 xr, .int .i64 0, .int .i64 0] = elCells (outS D (some (s, b)) ++ [x]) := by
          rw [elCells_append]
          have h1 := HXE.out
          have h2 := HB.out
          simp [elCells, elV, h1.1, h1.2, h2]
         rw [← hcat]
         exact ⟨hown8, hx8⟩)
        clear hsz7 hgrow8 hown8 hx8 hrow7 hx7 hnew hlb hnE HWX HOW
        go_wp2_with fail
        go_roundw
        case rel => exact ⟨i + 1, D ++ s :: b, some (x, []), by simp, by omega, by rw [show posS (D ++ s :: b) (some (x, [])) = ((n1 + 1 : Nat) : Int) from congrArg Int.ofNat HN.out]; simp, Lib.hid (HST.out.put HDR.out.1 HDR.out.2 rfl (outS_start HB.out HFF.out (by rw [HXE.out.2]; omega))), by show World.ownsRow _ _ _ _ _ ((D ++ s :: b) ++ [x]).length (elCells ((D ++ s :: b) ++ [x])); rw [List.length_append, show (D ++ s :: b).length = n1 + 1 from HN.out]; exact HO8.out.1, HO8.out.2⟩
        case measure => simp [intOf]; omega
       | false =>
        go_wp2_with fail
        refine gQ_normal ?_
        clear hown
        go_wp2_with (at_builtin; refine Hid.out ?_)
        refine Lib.hid ?_
        have hx7 := (HWX.out.alloc (.cells #[.int .i32 xr, .int .i64 0, .int .i64 0] 146))
        have hrow7 := ownsRow_ext HOW.out ((Ext.refl w7).alloc (.cells #[.int .i32 xr, .int .i64 0, .int .i64 0] 146))
        have hnew := cell3_new w7 (.int .i32 xr) (.int .i64 0) (.int .i64 0) 146
        try rw [show w7.heap.size = w7.heap.size by first | rfl | simp only [World.size_alloc]] at hnew
        generalize w7.alloc (.cells #[.int .i32 xr, .int .i64 0, .int .i64 0] 146) = wq7 at hx7 hrow7 hnew ⊢
        have hlb := HST.out.2.1
        have hsz7 := hx7.sz
        have hnE := HN.out
        refine wpList_append_own _ rfl (.tmp 77) (.tmp 79) 116 rfl w.heap.size 146 i0 (.agg #[.int .i32 0, .int .i64 0, .int .i64 0]) 3 24 Tryz.underlying116 hi0 hz0 hz1 hz3 rfl (by decide) _ (n1 + 1) (elCells (outS D (some (s, b)))) rfl hrow7 ⟨w7.heap.size, 0, none⟩ 1 1 [.int .i32 xr, .int .i64 0, .int .i64 0] rfl rfl hnew (by intro u hu; simp at hu; rcases hu with rfl | rfl | rfl <;> rfl) (by unfold maxLen; omega) (by omega) (by omega) ?_
        intro v' w8 hown8 hgrow8 _
        have hx8 : Ext w w8 := Below.grown hx7 hgrow8 hx7.sz (fun k e => (hrow7.lt k e).1)
        have HO8 := Lib.hid (show w8.ownsRow w.heap.size 146 3 v' ((n1 + 1) + 1) (elCells (outS D (some (s, b)) ++ [x])) ∧ Ext w w8 by
         have hcat : elCells (outS D (some (s, b))) ++ [.int .i32 xr, .int .i64 0, .int .i64 0] = elCells (outS D (some (s, b)) ++ [x]) := by
          rw [elCells_append]
          have h1 := HXE.out
          have h2 := HB.out
          simp [elCells, elV, h1.1, h1.2, h2]
         rw [← hcat]
         exact ⟨hown8, hx8⟩)
        clear hsz7 hgrow8 hown8 hx8 hrow7 hx7 hnew hlb hnE HWX HOW
        go_wp2_with fail
        go_roundw
        case rel => exact ⟨i + 1, D ++ s :: b, some (x, []), by simp, by omega, by rw [show posS (D ++ s :: b) (some (x, [])) = ((n1 + 1 : Nat) : Int) from congrArg Int.ofNat HN.out]; simp, Lib.hid (HST.out.put HDR.out.1 HDR.out.2 rfl (outS_start HB.out HFF.out (by rw [HXE.out.2]; omega))), by show World.ownsRow _ _ _ _ _ ((D ++ s :: b) ++ [x]).length (elCells ((D ++ s :: b) ++ [x])); rw [List.length_append, show (D ++ s :: b).length = n1 + 1 from HN.out]; exact HO8.out.1, HO8.out.2⟩
        case measure => simp [intOf]; omega
      ·have hop : 0 < xo := by omega
       have hob : (xo == 0) = false := by simpa using ho
       clear ho
       by_cases hzx : zo < xo
       ·have HFT := Lib.hid (show free b x = true by
         rw [HFR.out.2 HBE.out]
         have h1 := HXE.out.2
         have h2 := HSE.out.2.1
         exact decide_eq_true (by omega))
        go_wp2_with fail
        have hbx := World.alloc_heap_new wr (.cells #[.int .i32 xr, .int .i64 xo, .int .i64 0] 146)
        have hbx4 := (Ext.alloc (Ext.refl (wr.alloc (.cells #[.int .i32 xr, .int .i64 xo, .int .i64 0] 146))) (.cells #[.int .i32 zr, .int .i64 zo, .int .i64 zz] 146)).blk hbx
        have hx4 := HWX.out.alloc (.cells #[.int .i32 zr, .int .i64 zo, .int .i64 zz] 146)
        have ho4 := ownsRow_ext HOW.out ((Ext.refl (wr.alloc (.cells #[.int .i32 xr, .int .i64 xo, .int .i64 0] 146))).alloc (.cells #[.int .i32 zr, .int .i64 zo, .int .i64 zz] 146))
        have s4 := (((Ext.refl wr).alloc (.cells #[.int .i32 xr, .int .i64 xo, .int .i64 0] 146)).alloc (.cells #[.int .i32 zr, .int .i64 zo, .int .i64 zz] 146)).cell s0
        clear hbx c0 c1 c2 z0 z1 z2 HWX HOW hown hx hu1
        generalize (wr.alloc (.cells #[.int .i32 xr, .int .i64 xo, .int .i64 0] 146)).alloc (.cells #[.int .i32 zr, .int .i64 zo, .int .i64 zz] 146) = w4 at hbx4 hx4 ho4 s4 ⊢
        generalize wr.heap.size = xb at hbx4 ⊢
        have t0 : ∀ w', EOn (fun _ => True) w4 w' → w'.cell? ⟨xb, 0, none⟩ = some (.int .i32 xr) := fun w' h => h.cell trivial ((cell_blk hbx4 0).trans rfl)
        have t1 : ∀ w', EOn (fun _ => True) w4 w' → w'.cell? ⟨gu, dl * 3, none⟩ = some (.int .i32 sr) := fun w' h => h.cell trivial s4
        have H4 := Lib.hid (And.intro hbx4 (And.intro hx4 (And.intro ho4 s4)))
        clear hbx4 hx4 ho4 s4
        refine wp_lex (fun _ => True) [true, true, true, true, true, true, true, true, false, true, true, true, true, true] (by kernel_rfl) (by kernel_rfl) ?_
        repeat first
         | refine wpG_move' ?_
         | refine wpG_assign' ?_
         | refine wpG_val' ?_
         | refine wpG_no' ?_
        try refine wpG_val (by rfl) (fun w' hx => (by go_simp; exact (if_pos (by omega)).trans rfl)) (by simp only [Act.put, List.setIfInBounds_toArray, List.set_cons_succ, List.set_cons_zero]; rfl) ?_
        repeat first
         | refine wpG_move' ?_
         | refine wpG_assign' ?_
         | refine wpG_val' ?_
         | refine wpG_no' ?_
        clear t0 t1
        refine wpG_do (by rfl) (fun w5 hx5 K hK => ?_)
        go_wp2_with fail
        refine (c_join nb tB sr xr w5 (ht.ext (Ext.trans H4.out.2.1 hx5)) HSR.out HXR.out).mono ?_
        rintro e w6 ⟨rfl, hx6⟩
        obtain ⟨rj, hrj⟩ : ∃ rj, (jnT sr xr).getD 0 = rj := ⟨_, rfl⟩
        obtain ⟨oj, hoj⟩ : ∃ oj, (jnT sr xr).isSome = oj := ⟨_, rfl⟩
        have HJ := Lib.hid (And.intro hrj hoj)
        rw [hrj, hoj]
        clear hrj hoj
        refine hK _ _ ⟨EOn.of_ext hx6, ?_⟩
        have hx46 := Ext.trans hx5 hx6
        clear hK hx5 hx6
        repeat first
         | refine wpG_move' ?_
         | refine wpG_assign' ?_
         | refine wpG_val' ?_
         | refine wpG_no' ?_
        refine wpG_end (fun w7 hx7 => ?_)
        have hx47 := Ext.trans hx46 hx7
        have hbx7 := hx47.blk H4.out.1
        have c0 := (cell_blk hbx7 0).trans rfl
        have c1 := (cell_blk hbx7 1).trans rfl
        have c2 := (cell_blk hbx7 2).trans rfl
        have HWX := Lib.hid (H4.out.2.1.trans hx47)
        have hown := ownsRow_ext H4.out.2.2.1 hx47
        have c3 := hx47.cell H4.out.2.2.2
        have HOW := Lib.hid hown
        clear H4 hx46 hx7 hx47 hbx7
        cases oj with
        | true =>
         have HJS := Lib.hid (show jnT s.r x.r = some rj by
          have h1 := HJ.out
          rw [HSE.out.1, HXE.out.1]
          cases hc : jnT sr xr with
          | none => rw [hc] at h1; exact absurd h1.2 (by simp)
          | some r => rw [hc] at h1; rw [← h1.1]; rfl)
         have hfz := hown.frozenAt (dl * 3)
         have HS7 := Lib.hid (show (w7.setCell ⟨gu, dl * 3, none⟩ (.int .i32 rj)).ownsRow w.heap.size 146 3 (.slice (some ⟨gu, 0, none⟩) (n1 + 1) capu) (outS D (some ({ s with r := rj }, b))).length (elCells (outS D (some ({ s with r := rj }, b)))) by
          have h1 := (hown.stored (dl * 3) (.int .i32 rj)).1
          have h2 := elCells_setr D b s rj HSE.out.2.2
          have h3 : (outS D (some ({ s with r := rj }, b))).length = n1 + 1 := by rw [← HN.out]; simp [outS]
          rw [h3]
          simp only [outS] at h1 ⊢
          rw [h2] at h1
          exact h1)
         have HX7 := Lib.hid (show Ext w (w7.setCell ⟨gu, dl * 3, none⟩ (.int .i32 rj)) from HWX.out.setCell HU.out _)
         clear hown
         go_wp2_with fail
         refine gQ_normal ?_
         go_wp2_with fail
         go_roundw
         case rel => exact ⟨i + 1, D, some ({ s with r := rj }, b), by simp, by omega, by rw [show posS D (some ({ s with r := rj }, b)) = ((dl : Nat) : Int) from congrArg Int.ofNat HSE.out.2.2], Lib.hid (HST.out.join HDR.out.1 (jnT_valid _ _ _ HJS.out) HB.out HFT.out HJS.out), HS7.out, HX7.out⟩
         case measure => simp [intOf]; omega
        | false =>
         have HNO := Lib.hid (show jnT s.r x.r = none by
          have h1 := HJ.out
          rw [HSE.out.1, HXE.out.1]
          cases hc : jnT sr xr with
          | none => rfl
          | some r => rw [hc] at h1; exact absurd h1.2 (by simp))
         go_wp2_with fail
         refine gQ_normal ?_
         clear hown
         go_wp2_with (at_builtin; refine Hid.out ?_)
         refine Lib.hid ?_
         have hx7 := (HWX.out.alloc (.cells #[.int .i32 xr, .int .i64 xo, .int .i64 0] 146))
         have hrow7 := ownsRow_ext HOW.out ((Ext.refl w7).alloc (.cells #[.int .i32 xr, .int .i64 xo, .int .i64 0] 146))
         have hnew := cell3_new w7 (.int .i32 xr) (.int .i64 xo) (.int .i64 0) 146
         try rw [show w7.heap.size = w7.heap.size by first | rfl | simp only [World.size_alloc]] at hnew
         generalize w7.alloc (.cells #[.int .i32 xr, .int .i64 xo, .int .i64 0] 146) = wq7 at hx7 hrow7 hnew ⊢
         have hlb := HST.out.2.1
         have hsz7 := hx7.sz
         have hnE := HN.out
         refine wpList_append_own _ rfl (.tmp 77) (.tmp 79) 116 rfl w.heap.size 146 i0 (.agg #[.int .i32 0, .int .i64 0, .int .i64 0]) 3 24 Tryz.underlying116 hi0 hz0 hz1 hz3 rfl (by decide) _ (n1 + 1) (elCells (outS D (some (s, b)))) rfl hrow7 ⟨w7.heap.size, 0, none⟩ 1 1 [.int .i32 xr, .int .i64 xo, .int .i64 0] rfl rfl hnew (by intro u hu; simp at hu; rcases hu with rfl | rfl | rfl <;> rfl) (by unfold maxLen; omega) (by omega) (by omega) ?_
         intro v' w8 hown8 hgrow8 _
         have hx8 : Ext w w8 := Below.grown hx7 hgrow8 hx7.sz (fun k e => (hrow7.lt k e).1)
         have HO8 := Lib.hid (show w8.ownsRow w.heap.size 146 3 v' ((n1 + 1) + 1) (elCells (outS D (some (s, b)) ++ [x])) ∧ Ext w w8 by
          have hcat : elCells (outS D (some (s, b))) ++ [.int .i32 xr, .int .i64 xo, .int .i64 0] = elCells (outS D (some (s, b)) ++ [x]) := by
           rw [elCells_append]
           have h1 := HXE.out
           have h2 := HB.out
           simp [elCells, elV, h1.1, h1.2, h2]
          rw [← hcat]
          exact ⟨hown8, hx8⟩)
         clear hsz7 hgrow8 hown8 hx8 hrow7 hx7 hnew hlb hnE HWX HOW
         go_wp2_with fail
         go_roundw
         case rel => exact ⟨i + 1, D, some (s, b ++ [x]), by simp, by omega, by rw [show posS D (some (s, b ++ [x])) = ((dl : Nat) : Int) from congrArg Int.ofNat HSE.out.2.2], Lib.hid (HST.out.put HDR.out.1 HDR.out.2 (by simp [outS]) (outS_mark HB.out (fun _ => HNO.out) (by rw [HXE.out.2]; omega))), by
          have e : outS D (some (s, b ++ [x])) = (D ++ s :: b) ++ [x] := by simp [outS]
          rw [e, List.length_append, show (D ++ s :: b).length = n1 + 1 from HN.out]; exact HO8.out.1, HO8.out.2⟩
         case measure => simp [intOf]; omega
       ·have HFF := Lib.hid (show free b x = true → jnT s.r x.r = none by
         intro h
         rw [HFR.out.2 HBE.out] at h
         have h1 := HXE.out.2
         have h3 := HSE.out.2.1
         have h2 := of_decide_eq_true h
         omega)
        go_wp2_with fail
        have hbx := World.alloc_heap_new wr (.cells #[.int .i32 xr, .int .i64 xo, .int .i64 0] 146)
        have hbx4 := (Ext.alloc (Ext.refl (wr.alloc (.cells #[.int .i32 xr, .int .i64 xo, .int .i64 0] 146))) (.cells #[.int .i32 zr, .int .i64 zo, .int .i64 zz] 146)).blk hbx
        have hx4 := HWX.out.alloc (.cells #[.int .i32 zr, .int .i64 zo, .int .i64 zz] 146)
        have ho4 := ownsRow_ext HOW.out ((Ext.refl (wr.alloc (.cells #[.int .i32 xr, .int .i64 xo, .int .i64 0] 146))).alloc (.cells #[.int .i32 zr, .int .i64 zo, .int .i64 zz] 146))
        have s4 := (((Ext.refl wr).alloc (.cells #[.int .i32 xr, .int .i64 xo, .int .i64 0] 146)).alloc (.cells #[.int .i32 zr, .int .i64 zo, .int .i64 zz] 146)).cell s0
        clear hbx c0 c1 c2 z0 z1 z2 HWX HOW hown hx hu1
        generalize (wr.alloc (.cells #[.int .i32 xr, .int .i64 xo, .int .i64 0] 146)).alloc (.cells #[.int .i32 zr, .int .i64 zo, .int .i64 zz] 146) = w4 at hbx4 hx4 ho4 s4 ⊢
        generalize wr.heap.size = xb at hbx4 ⊢
        have t0 : ∀ w', EOn (fun _ => True) w4 w' → w'.cell? ⟨xb, 0, none⟩ = some (.int .i32 xr) := fun w' h => h.cell trivial ((cell_blk hbx4 0).trans rfl)
        have t1 : ∀ w', EOn (fun _ => True) w4 w' → w'.cell? ⟨gu, dl * 3, none⟩ = some (.int .i32 sr) := fun w' h => h.cell trivial s4
        have H4 := Lib.hid (And.intro hbx4 (And.intro hx4 (And.intro ho4 s4)))
        clear hbx4 hx4 ho4 s4
        refine wp_lex (fun _ => True) [true, true, true, true, true, true, true, true, false, true, true, true, true, true] (by kernel_rfl) (by kernel_rfl) ?_
        repeat first
         | refine wpG_move' ?_
         | refine wpG_assign' ?_
         | refine wpG_val' ?_
         | refine wpG_no' ?_
        try refine wpG_val (by rfl) (fun w' hx => (by go_simp; exact (if_pos (by omega)).trans rfl)) (by simp only [Act.put, List.setIfInBounds_toArray, List.set_cons_succ, List.set_cons_zero]; rfl) ?_
        repeat first
         | refine wpG_move' ?_
         | refine wpG_assign' ?_
         | refine wpG_val' ?_
         | refine wpG_no' ?_
        clear t0 t1
        refine wpG_do (by rfl) (fun w5 hx5 K hK => ?_)
        go_wp2_with fail
        refine (c_join nb tB sr xr w5 (ht.ext (Ext.trans H4.out.2.1 hx5)) HSR.out HXR.out).mono ?_
        rintro e w6 ⟨rfl, hx6⟩
        obtain ⟨rj, hrj⟩ : ∃ rj, (jnT sr xr).getD 0 = rj := ⟨_, rfl⟩
        obtain ⟨oj, hoj⟩ : ∃ oj, (jnT sr xr).isSome = oj := ⟨_, rfl⟩
        have HJ := Lib.hid (And.intro hrj hoj)
        rw [hrj, hoj]
        clear hrj hoj
        refine hK _ _ ⟨EOn.of_ext hx6, ?_⟩
        have hx46 := Ext.trans hx5 hx6
        clear hK hx5 hx6
        repeat first
         | refine wpG_move' ?_
         | refine wpG_assign' ?_
         | refine wpG_val' ?_
         | refine wpG_no' ?_
        refine wpG_end (fun w7 hx7 => ?_)
        have hx47 := Ext.trans hx46 hx7
        have hbx7 := hx47.blk H4.out.1
        have c0 := (cell_blk hbx7 0).trans rfl
        have c1 := (cell_blk hbx7 1).trans rfl
        have c2 := (cell_blk hbx7 2).trans rfl
        have HWX := Lib.hid (H4.out.2.1.trans hx47)
        have hown := ownsRow_ext H4.out.2.2.1 hx47
        have c3 := hx47.cell H4.out.2.2.2
        have HOW := Lib.hid hown
        clear H4 hx46 hx7 hx47 hbx7
        cases oj with
        | true =>
         go_wp2_with fail
         refine gQ_normal ?_
         clear hown
         go_wp2_with (at_builtin; refine Hid.out ?_)
         refine Lib.hid ?_
         have hx7 := (HWX.out.alloc (.cells #[.int .i32 xr, .int .i64 xo, .int .i64 0] 146))
         have hrow7 := ownsRow_ext HOW.out ((Ext.refl w7).alloc (.cells #[.int .i32 xr, .int .i64 xo, .int .i64 0] 146))
         have hnew := cell3_new w7 (.int .i32 xr) (.int .i64 xo) (.int .i64 0) 146
         try rw [show w7.heap.size = w7.heap.size by first | rfl | simp only [World.size_alloc]] at hnew
         generalize w7.alloc (.cells #[.int .i32 xr, .int .i64 xo, .int .i64 0] 146) = wq7 at hx7 hrow7 hnew ⊢
         have hlb := HST.out.2.1
         have hsz7 := hx7.sz
         have hnE := HN.out
         refine wpList_append_own _ rfl (.tmp 77) (.tmp 79) 116 rfl w.heap.size 146 i0 (.agg #[.int .i32 0, .int .i64 0, .int .i64 0]) 3 24 Tryz.underlying116 hi0 hz0 hz1 hz3 rfl (by decide) _ (n1 + 1) (elCells (outS D (some (s, b)))) rfl hrow7 ⟨w7.heap.size, 0, none⟩ 1 1 [.int .i32 xr, .int .i64 xo, .int .i64 0] rfl rfl hnew (by intro u hu; simp at hu; rcases hu with rfl | rfl | rfl <;> rfl) (by unfold maxLen; omega) (by omega) (by omega) ?_
         intro v' w8 hown8 hgrow8 _
         have hx8 : Ext w w8 := Below.grown hx7 hgrow8 hx7.sz (fun k e => (hrow7.lt k e).1)
         have HO8 := Lib.hid (show w8.ownsRow w.heap.size 146 3 v' ((n1 + 1) + 1) (elCells (outS D (some (s, b)) ++ [x])) ∧ Ext w w8 by
          have hcat : elCells (outS D (some (s, b))) ++ [.int .i32 xr, .int .i64 xo, .int .i64 0] = elCells (outS D (some (s, b)) ++ [x]) := by
           rw [elCells_append]
           have h1 := HXE.out
           have h2 := HB.out
           simp [elCells, elV, h1.1, h1.2, h2]
          rw [← hcat]
          exact ⟨hown8, hx8⟩)
         clear hsz7 hgrow8 hown8 hx8 hrow7 hx7 hnew hlb hnE HWX HOW
         go_wp2_with fail
         go_roundw
         case rel => exact ⟨i + 1, D, some (s, b ++ [x]), by simp, by omega, by rw [show posS D (some (s, b ++ [x])) = ((dl : Nat) : Int) from congrArg Int.ofNat HSE.out.2.2], Lib.hid (HST.out.put HDR.out.1 HDR.out.2 (by simp [outS]) (outS_mark HB.out HFF.out (by rw [HXE.out.2]; omega))), by
          have e : outS D (some (s, b ++ [x])) = (D ++ s :: b) ++ [x] := by simp [outS]
          rw [e, List.length_append, show (D ++ s :: b).length = n1 + 1 from HN.out]; exact HO8.out.1, HO8.out.2⟩
         case measure => simp [intOf]; omega
        | false =>
         go_wp2_with fail
         refine gQ_normal ?_
         clear hown
         go_wp2_with (at_builtin; refine Hid.out ?_)
         refine Lib.hid ?_
         have hx7 := (HWX.out.alloc (.cells #[.int .i32 xr, .int .i64 xo, .int .i64 0] 146))
         have hrow7 := ownsRow_ext HOW.out ((Ext.refl w7).alloc (.cells #[.int .i32 xr, .int .i64 xo, .int .i64 0] 146))
         have hnew := cell3_new w7 (.int .i32 xr) (.int .i64 xo) (.int .i64 0) 146
         try rw [show w7.heap.size = w7.heap.size by first | rfl | simp only [World.size_alloc]] at hnew
         generalize w7.alloc (.cells #[.int .i32 xr, .int .i64 xo, .int .i64 0] 146) = wq7 at hx7 hrow7 hnew ⊢
         have hlb := HST.out.2.1
         have hsz7 := hx7.sz
         have hnE := HN.out
         refine wpList_append_own _ rfl (.tmp 77) (.tmp 79) 116 rfl w.heap.size 146 i0 (.agg #[.int .i32 0, .int .i64 0, .int .i64 0]) 3 24 Tryz.underlying116 hi0 hz0 hz1 hz3 rfl (by decide) _ (n1 + 1) (elCells (outS D (some (s, b)))) rfl hrow7 ⟨w7.heap.size, 0, none⟩ 1 1 [.int .i32 xr, .int .i64 xo, .int .i64 0] rfl rfl hnew (by intro u hu; simp at hu; rcases hu with rfl | rfl | rfl <;> rfl) (by unfold maxLen; omega) (by omega) (by omega) ?_
         intro v' w8 hown8 hgrow8 _
         have hx8 : Ext w w8 := Below.grown hx7 hgrow8 hx7.sz (fun k e => (hrow7.lt k e).1)
         have HO8 := Lib.hid (show w8.ownsRow w.heap.size 146 3 v' ((n1 + 1) + 1) (elCells (outS D (some (s, b)) ++ [x])) ∧ Ext w w8 by
          have hcat : elCells (outS D (some (s, b))) ++ [.int .i32 xr, .int .i64 xo, .int .i64 0] = elCells (outS D (some (s, b)) ++ [x]) := by
           rw [elCells_append]
           have h1 := HXE.out
           have h2 := HB.out
           simp [elCells, elV, h1.1, h1.2, h2]
          rw [← hcat]
          exact ⟨hown8, hx8⟩)
         clear hsz7 hgrow8 hown8 hx8 hrow7 hx7 hnew hlb hnE HWX HOW
         go_wp2_with fail
         go_roundw
         case rel => exact ⟨i + 1, D, some (s, b ++ [x]), by simp, by omega, by rw [show posS D (some (s, b ++ [x])) = ((dl : Nat) : Int) from congrArg Int.ofNat HSE.out.2.2], Lib.hid (HST.out.put HDR.out.1 HDR.out.2 (by simp [outS]) (outS_mark HB.out HFF.out (by rw [HXE.out.2]; omega))), by
          have e : outS D (some (s, b ++ [x])) = (D ++ s :: b) ++ [x] := by simp [outS]
          rw [e, List.length_append, show (D ++ s :: b).length = n1 + 1 from HN.out]; exact HO8.out.1, HO8.out.2⟩
         case measure => simp [intOf]; omega
  ·have hd : decide (i < L.length) = false := decide_eq_false hlt
   have hE : J jnT none L = outS D st := by
    have h := hst.out.1
    rw [List.drop_of_length_le (by omega)] at h
    rw [h]
    cases st with
    | none => simp [outS, J]
    | some p => obtain ⟨s, b⟩ := p; simp [outS, J]
   have HE := Lib.hid (show wr.ownsRow w.heap.size 146 3 (.slice pu (outS D st).length capu) (J jnT none L).length (elCells (J jnT none L)) by
    rw [hE]
    exact hown)
   clear hE hown
   go_wp2_with fail
   go_ret
   exact ⟨_, rfl, HE.out, hx⟩
end Go.Proofs.YtokeamebcdhnpaaGreatDoor
