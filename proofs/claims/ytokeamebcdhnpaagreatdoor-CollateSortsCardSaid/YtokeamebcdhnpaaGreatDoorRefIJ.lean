/-
 The reference: elements joined. The reference: its tables laid; a text's form. The reference: a text's form.
-/
import Derived.Test.YtokeamebcdhnpaaGreatDoorRefD
import Derived.Test.YtokeamebcdhnpaaGreatDoorRE
import Derived.Test.YtokeamebcdhnpaaGreatDoorWalkTU
import Derived.Laws.IdiomStrings
import Derived.Lib.Walk
section
namespace Go.Proofs.YtokeamebcdhnpaaGreatDoor
open Go.RowKit Go.Rp Go.Shelf Go.Maps Go.Nm

def stL : Option (El × List El) → List El
 | none => []
 | some (s, b) => s :: b
def stN (D : List El) : Option (El × List El) → Int
 | none => -1
 | some _ => (D.length : Nat)
/-- What is known of the state ahead of the rest. -/
def StR (T : List El) : Option (El × List El) → Prop
 | none => Srt T
 | some (s, b) => s.bad = false ∧ (∀ y ∈ b, 0 < y.ord) ∧ Srt (b ++ T)
theorem Srt_skip {x : El} : ∀ {b t : List El}, Srt (b ++ x :: t) → (∀ y ∈ b, 0 < y.ord ∧ y.ord < x.ord) → Srt (b ++ t)
 | [], _, h, _ => h.tail
 | [y], [], _, _ => trivial
 | [y], z :: u, h, hb => by
  have h1 := hb y (by simp)
  have h2 : ¬ (0 < z.ord ∧ z.ord < x.ord) := h.2.1
  exact ⟨by omega, h.tail.tail⟩
 | y :: y' :: u, t, h, hb => ⟨h.1, Srt_skip (b := y' :: u) h.tail (fun z hz => hb z (List.mem_cons_of_mem _ hz))⟩
def allB (xo : Int) (l : List El) : Bool := l.all fun y => decide (0 < y.ord) && decide (y.ord < xo)
theorem elRs_setr (m : List El) (i : Nat) (h : i < m.length) (hb : m[i].bad = false) (r : Int) : (elRs m).set (i * 4) (.int .i32 r) = elRs (m.set i { m[i] with r := r }) := by
 obtain ⟨pre, y, t, hm, hi⟩ : ∃ pre y t, m = pre ++ y :: t ∧ pre.length = i := ⟨m.take i, m[i], m.drop (i + 1), by rw [← List.drop_eq_getElem_cons h, List.take_append_drop], by rw [List.length_take]; omega⟩
 subst hm hi
 have hy : (pre ++ y :: t)[pre.length] = y := by simp
 rw [hy] at hb ⊢
 have e : elRs (pre ++ y :: t) = elRs pre ++ (elR y ++ elRs t) := by rw [elRs_append]; rfl
 have e2 : (pre ++ y :: t).set pre.length { y with r := r } = pre ++ { y with r := r } :: t := by simp
 have e3 : elRs (pre ++ { y with r := r } :: t) = elRs pre ++ (elR { y with r := r } ++ elRs t) := by rw [elRs_append]; rfl
 have hl := elRs_length pre
 rw [e2, e, e3, List.set_append_right _ _ (by omega), hl, Nat.sub_self]
 congr 1
 unfold elR aR cR
 simp only [hb]
 rfl
theorem ArrR.setr {W : World} {g : Nat} {post : List Value} {R : List El} (h : ArrR W g R post) {i : Nat} (hi : i < R.length) (hb : R[i].bad = false) (r : Int) : ArrR (W.setCell ⟨g, i * 4, none⟩ (.int .i32 r)) g (R.set i { R[i] with r := r }) post := by
 have hl := elRs_length R
 have h1 := set_blk h (i * 4) (.int .i32 r)
 simp only [List.setIfInBounds_toArray] at h1
 rw [List.set_append_left _ _ (by omega), elRs_setr R i hi hb] at h1
 exact h1
theorem Srt_drop : ∀ {b t : List El}, Srt (b ++ t) → Srt t
 | [], _, h => h
 | _ :: b, _, h => Srt_drop (b := b) h.tail
theorem free_iff {b t : List El} {x : El} (hs : Srt (b ++ x :: t)) (hp : ∀ y ∈ b, 0 < y.ord) : free b x = true ↔ ∀ y ∈ b, 0 < y.ord ∧ y.ord < x.ord := by
 refine ⟨free_all hs hp, fun h => ?_⟩
 unfold free
 split
 ·rfl
 ·rename_i z hz
  have := h z (List.mem_of_getLast? hz)
  exact decide_eq_true (by omega)
set_option maxRecDepth 100000 in
set_option maxHeartbeats 8000000 in
theorem c_rjoined (tB n cap : Nat) (p : Option Addr) (L : List El) (w : World) (h : RTab w tB) (hown : w.ownsRow n 96 4 (.slice p L.length cap) L.length (elRs L)) (hS : Srt L) (ho : ∀ x ∈ L, 0 ≤ x.ord) (hl : L.length ≤ 20000000) :
  Calls Tryz.prog 58 #[.pointer (some ⟨tB, 0, none⟩), .slice p L.length cap] w fun e w' => ∃ v, e = .returned v ∧ w'.ownsRow w.heap.size 96 4 v (J jnT none L).length (elRs (J jnT none L)) ∧ Ext w w' := by
 obtain ⟨i0, hi0, hz0, hz1, hz3⟩ := info_parts infoER
 have HL := Lib.hid (And.intro hown (And.intro ho h))
 have hlI : ((L.length : Nat) : Int) ≤ 20000000 := by omega
 have HS := Lib.hid hS
 clear hown hS h ho
 go_enter Tryz.func58, Tryz.ntmps58
 go_wp2_with fail
 go_loopw [5, 6, 7] (fun ov lv iv W => ∃ (i : Nat) (D : List El) (st : Option (El × List El)), iv = .int .i64 (i : Nat) ∧ i ≤ L.length ∧ lv = .int .i64 (stN D st) ∧ Hid (J jnT none L = D ++ J jnT st (L.drop i) ∧ StR (L.drop i) st ∧ (D ++ stL st).length ≤ i) ∧ W.ownsRow w.heap.size 96 4 ov (D ++ stL st).length (elRs (D ++ stL st)) ∧ Ext w W) (fun _ _ iv _ => L.length + 1 - (intOf iv).toNat)
 case atStart => exact ⟨0, [], none, rfl, by omega, rfl, Lib.hid ⟨rfl, HS.out, by simp [stL]⟩, World.ownsRow_nil _ _ _ _, Ext.refl _⟩
 case round =>
  obtain ⟨i, D, st, rfl, hi, rfl, HG, hrow, hx⟩ := hrel
  obtain ⟨po, co, rfl⟩ := own_slice hrow
  by_cases hlt : i < L.length
  ·have hd : decide (i < L.length) = true := decide_eq_true hlt
   have hI : ((i : Nat) : Int) < (L.length : Nat) := by omega
   obtain ⟨gl, post, rfl, _, hA, -, -, -⟩ := arrR_of HL.out.1 (by intro e; subst e; simp at hlt)
   obtain ⟨c0, c1, c2, c3⟩ := hA.get hlt
   have hdr := List.drop_eq_getElem_cons hlt
   obtain ⟨x, hxL⟩ : ∃ x, L[i] = x := ⟨_, rfl⟩
   rw [hxL] at c0 c1 c2 c3 hdr
   replace c0 := hx.cell c0
   replace c1 := hx.cell c1
   replace c2 := hx.cell c2
   replace c3 := hx.cell c3
   have HD := Lib.hid hdr
   obtain ⟨xo, hxo⟩ : ∃ z, x.ord = z := ⟨_, rfl⟩
   obtain ⟨xa, hxa⟩ : ∃ z, aR x = z := ⟨_, rfl⟩
   obtain ⟨xb, hxb⟩ : ∃ z, x.bad = z := ⟨_, rfl⟩
   obtain ⟨xc, hxc⟩ : ∃ z, cR x = z := ⟨_, rfl⟩
   have HV := Lib.hid (show elR x = [.int .i32 xa, .bool xb, .int .u8 xc, .int .i64 xo] ∧ x.ord = xo ∧ x.bad = xb ∧ aR x = xa ∧ 0 ≤ xo by
    refine ⟨by rw [← hxa, ← hxb, ← hxc, ← hxo]; rfl, hxo, hxb, hxa, ?_⟩
    rw [← hxo, ← hxL]
    exact HL.out.2.1 _ (List.getElem_mem hlt))
   rw [hxa] at c0
   rw [hxb] at c1
   rw [hxc] at c2
   rw [hxo] at c3
   have HROW := Lib.hid (And.intro hrow hx)
   clear hdr hA hxL hxo hxa hxb hxc hrow
   cases st with
   | none =>
    have hsn : stN D none = -1 := rfl
    have hG := HG.out
    have hse : D ++ stL none = D := List.append_nil D
    rw [HD.out] at hG
    rw [hse] at hG HROW ⊢
    rw [hsn]
    have hDl : D.length ≤ 20000000 := by omega
    cases xb with
    | true =>
     have HE := Lib.hid (show J jnT none L = (D ++ [x]) ++ J jnT none (L.drop (i + 1)) ∧ StR (L.drop (i + 1)) none ∧ (D ++ [x]).length ≤ i + 1 ∧ (D ++ [x]) ++ stL none = D ++ [x] from
      ⟨by rw [hG.1, J_skip (.inl HV.out.2.2.1)]; simp, hG.2.1.tail, by rw [List.length_append]; have := hG.2.2; simp; omega, List.append_nil _⟩)
     clear hG HG hsn hse
     have hbO := World.alloc_heap_new wr (.cells #[.int .i32 xa, .bool true, .int .u8 xc, .int .i64 xo] 96)
     have hrowB := ownsRow_ext HROW.out.1 ((Ext.refl wr).alloc (.cells #[.int .i32 xa, .bool true, .int .u8 xc, .int .i64 xo] 96))
     have hxB := HROW.out.2.alloc (.cells #[.int .i32 xa, .bool true, .int .u8 xc, .int .i64 xo] 96)
     have hnew := World.alloc_heap_new (wr.alloc (.cells #[.int .i32 xa, .bool true, .int .u8 xc, .int .i64 xo] 96)) (.cells #[.int .i32 xa, .bool true, .int .u8 xc, .int .i64 xo] 96)
     rw [World.size_alloc] at hnew
     have HB := Lib.hid (And.intro (ownsRow_ext hrowB ((Ext.refl _).alloc (.cells #[.int .i32 xa, .bool true, .int .u8 xc, .int .i64 xo] 96))) (And.intro (hxB.alloc (.cells #[.int .i32 xa, .bool true, .int .u8 xc, .int .i64 xo] 96)) hnew))
     clear hbO hrowB hxB hnew HROW hx
     go_wp2_with (at_builtin; refine Hid.out ?_)
     refine Lib.hid ?_
     refine wpList_apps rfl (.tmp 81) (.tmp 83) 91 rfl 96 i0 (.agg #[.int .i32 0, .bool false, .int .u8 0, .int .i64 0]) 4 16 Tryz.underlying91 hi0 hz0 hz1 hz3 rfl (by decide) rfl HB.out.1 HB.out.2.1 [.int .i32 xa, .bool true, .int .u8 xc, .int .i64 xo] (wr.heap.size + 1) 0 1 1 rfl rfl ?ka1 (by intro u hu; simp at hu; rcases hu with rfl | rfl | rfl | rfl <;> rfl) ?kb1 (by decide) ?_
     case kb1 => omega
     case ka1 =>
      intro q hq
      match q, hq with
      | 0, _ => exact (cell_blk HB.out.2.2 0).trans rfl
      | 1, _ => exact (cell_blk HB.out.2.2 1).trans rfl
      | 2, _ => exact (cell_blk HB.out.2.2 2).trans rfl
      | 3, _ => exact (cell_blk HB.out.2.2 3).trans rfl
     intro v' w4 hown4 hx4 _
     have HO4 := Lib.hid (And.intro hown4 hx4)
     clear hown4 hx4 HB
     go_wp2_with fail
     refine ⟨⟨i + 1, (D ++ [x]), (none : Option (El × List El)), by simp, by omega, rfl, Lib.hid ⟨HE.out.1, HE.out.2.1, ?_⟩, ?_, HO4.out.2⟩, by simp [intOf]; omega⟩
     ·rw [HE.out.2.2.2]
      exact HE.out.2.2.1
     have e : elRs D ++ [.int .i32 xa, .bool true, .int .u8 xc, .int .i64 xo] = elRs (D ++ [x]) := by
      rw [elRs_append]
      show _ = elRs D ++ (elR x ++ [])
      rw [List.append_nil, HV.out.1]
     have h4 := HO4.out.1
     rw [e, show D.length + 1 = (D ++ [x]).length by simp, ← HE.out.2.2.2] at h4
     exact h4
    | false =>
     by_cases h0 : xo = 0
     ·have hb0 : (xo == 0) = true := by rw [h0]; rfl
      have HE := Lib.hid (show J jnT none L = D ++ J jnT (some (x, [])) (L.drop (i + 1)) ∧ StR (L.drop (i + 1)) (some (x, [])) ∧ (D ++ [x]).length ≤ i + 1 ∧ D ++ stL (some (x, [])) = D ++ [x] from
       ⟨by rw [hG.1, J_open (by rw [HV.out.2.2.1, HV.out.2.1, h0]; simp)], ⟨HV.out.2.2.1, fun y hy => by simp at hy, hG.2.1.tail⟩, by rw [List.length_append]; have := hG.2.2; simp; omega, rfl⟩)
      clear hG HG hsn hse h0
      have hbO := World.alloc_heap_new wr (.cells #[.int .i32 xa, .bool false, .int .u8 xc, .int .i64 xo] 96)
      have hrowB := ownsRow_ext HROW.out.1 ((Ext.refl wr).alloc (.cells #[.int .i32 xa, .bool false, .int .u8 xc, .int .i64 xo] 96))
      have hxB := HROW.out.2.alloc (.cells #[.int .i32 xa, .bool false, .int .u8 xc, .int .i64 xo] 96)
      have hnew := World.alloc_heap_new (wr.alloc (.cells #[.int .i32 xa, .bool false, .int .u8 xc, .int .i64 xo] 96)) (.cells #[.int .i32 xa, .bool false, .int .u8 xc, .int .i64 xo] 96)
      rw [World.size_alloc] at hnew
      have HB := Lib.hid (And.intro (ownsRow_ext hrowB ((Ext.refl _).alloc (.cells #[.int .i32 xa, .bool false, .int .u8 xc, .int .i64 xo] 96))) (And.intro (hxB.alloc (.cells #[.int .i32 xa, .bool false, .int .u8 xc, .int .i64 xo] 96)) hnew))
      clear hbO hrowB hxB hnew HROW hx
      go_wp2_with (at_builtin; refine Hid.out ?_)
      refine Lib.hid ?_
      refine wpList_apps rfl (.tmp 81) (.tmp 83) 91 rfl 96 i0 (.agg #[.int .i32 0, .bool false, .int .u8 0, .int .i64 0]) 4 16 Tryz.underlying91 hi0 hz0 hz1 hz3 rfl (by decide) rfl HB.out.1 HB.out.2.1 [.int .i32 xa, .bool false, .int .u8 xc, .int .i64 xo] (wr.heap.size + 1) 0 1 1 rfl rfl ?ka2 (by intro u hu; simp at hu; rcases hu with rfl | rfl | rfl | rfl <;> rfl) ?kb2 (by decide) ?_
      case kb2 => omega
      case ka2 =>
       intro q hq
       match q, hq with
       | 0, _ => exact (cell_blk HB.out.2.2 0).trans rfl
       | 1, _ => exact (cell_blk HB.out.2.2 1).trans rfl
       | 2, _ => exact (cell_blk HB.out.2.2 2).trans rfl
       | 3, _ => exact (cell_blk HB.out.2.2 3).trans rfl
      intro v' w4 hown4 hx4 _
      have HO4 := Lib.hid (And.intro hown4 hx4)
      clear hown4 hx4 HB
      go_wp2_with fail
      refine ⟨⟨i + 1, D, (some (x, [])), by simp, by omega, rfl, Lib.hid ⟨HE.out.1, HE.out.2.1, ?_⟩, ?_, HO4.out.2⟩, by simp [intOf]; omega⟩
      ·rw [HE.out.2.2.2]
       exact HE.out.2.2.1
      have e : elRs D ++ [.int .i32 xa, .bool false, .int .u8 xc, .int .i64 xo] = elRs (D ++ [x]) := by
       rw [elRs_append]
       show _ = elRs D ++ (elR x ++ [])
       rw [List.append_nil, HV.out.1]
      have h4 := HO4.out.1
      rw [e, show D.length + 1 = (D ++ [x]).length by simp, ← HE.out.2.2.2] at h4
      exact h4
     ·have hb0 : (xo == 0) = false := beq_false_of_ne h0
      have HE := Lib.hid (show J jnT none L = (D ++ [x]) ++ J jnT none (L.drop (i + 1)) ∧ StR (L.drop (i + 1)) none ∧ (D ++ [x]).length ≤ i + 1 ∧ (D ++ [x]) ++ stL none = D ++ [x] from
       ⟨by rw [hG.1, J_skip (.inr (by rw [HV.out.2.1]; have := HV.out.2.2.2.2; omega))]; simp, hG.2.1.tail, by rw [List.length_append]; have := hG.2.2; simp; omega, List.append_nil _⟩)
      clear hG HG hsn hse h0
      have hbO := World.alloc_heap_new wr (.cells #[.int .i32 xa, .bool false, .int .u8 xc, .int .i64 xo] 96)
      have hrowB := ownsRow_ext HROW.out.1 ((Ext.refl wr).alloc (.cells #[.int .i32 xa, .bool false, .int .u8 xc, .int .i64 xo] 96))
      have hxB := HROW.out.2.alloc (.cells #[.int .i32 xa, .bool false, .int .u8 xc, .int .i64 xo] 96)
      have hnew := World.alloc_heap_new (wr.alloc (.cells #[.int .i32 xa, .bool false, .int .u8 xc, .int .i64 xo] 96)) (.cells #[.int .i32 xa, .bool false, .int .u8 xc, .int .i64 xo] 96)
      rw [World.size_alloc] at hnew
      have HB := Lib.hid (And.intro (ownsRow_ext hrowB ((Ext.refl _).alloc (.cells #[.int .i32 xa, .bool false, .int .u8 xc, .int .i64 xo] 96))) (And.intro (hxB.alloc (.cells #[.int .i32 xa, .bool false, .int .u8 xc, .int .i64 xo] 96)) hnew))
      clear hbO hrowB hxB hnew HROW hx
      go_wp2_with (at_builtin; refine Hid.out ?_)
      refine Lib.hid ?_
      refine wpList_apps rfl (.tmp 81) (.tmp 83) 91 rfl 96 i0 (.agg #[.int .i32 0, .bool false, .int .u8 0, .int .i64 0]) 4 16 Tryz.underlying91 hi0 hz0 hz1 hz3 rfl (by decide) rfl HB.out.1 HB.out.2.1 [.int .i32 xa, .bool false, .int .u8 xc, .int .i64 xo] (wr.heap.size + 1) 0 1 1 rfl rfl ?ka3 (by intro u hu; simp at hu; rcases hu with rfl | rfl | rfl | rfl <;> rfl) ?kb3 (by decide) ?_
      case kb3 => omega
      case ka3 =>
       intro q hq
       match q, hq with
       | 0, _ => exact (cell_blk HB.out.2.2 0).trans rfl
       | 1, _ => exact (cell_blk HB.out.2.2 1).trans rfl
       | 2, _ => exact (cell_blk HB.out.2.2 2).trans rfl
       | 3, _ => exact (cell_blk HB.out.2.2 3).trans rfl
      intro v' w4 hown4 hx4 _
      have HO4 := Lib.hid (And.intro hown4 hx4)
      clear hown4 hx4 HB
      go_wp2_with fail
      refine ⟨⟨i + 1, (D ++ [x]), (none : Option (El × List El)), by simp, by omega, rfl, Lib.hid ⟨HE.out.1, HE.out.2.1, ?_⟩, ?_, HO4.out.2⟩, by simp [intOf]; omega⟩
      ·rw [HE.out.2.2.2]
       exact HE.out.2.2.1
      have e : elRs D ++ [.int .i32 xa, .bool false, .int .u8 xc, .int .i64 xo] = elRs (D ++ [x]) := by
       rw [elRs_append]
       show _ = elRs D ++ (elR x ++ [])
       rw [List.append_nil, HV.out.1]
      have h4 := HO4.out.1
      rw [e, show D.length + 1 = (D ++ [x]).length by simp, ← HE.out.2.2.2] at h4
      exact h4
   | some sb =>
    obtain ⟨s, b⟩ := sb
    have hsn : stN D (some (s, b)) = (D.length : Nat) := rfl
    have hG := HG.out
    rw [HD.out] at hG
    rw [hsn]
    obtain ⟨O, hO⟩ : ∃ O, D ++ stL (some (s, b)) = O := ⟨_, rfl⟩
    have hO' : O = D ++ s :: b := hO.symm
    rw [hO] at hG HROW ⊢
    have hDl : O.length ≤ 20000000 := by omega
    have hDO : D.length < O.length := by rw [hO']; simp
    cases xb with
    | true =>
     have HE := Lib.hid (show J jnT none L = (O ++ [x]) ++ J jnT none (L.drop (i + 1)) ∧ StR (L.drop (i + 1)) none ∧ (O ++ [x]).length ≤ i + 1 ∧ (O ++ [x]) ++ stL none = O ++ [x] from
      ⟨by rw [hG.1, J_bad HV.out.2.2.1, hO']; simp, (Srt_drop hG.2.1.2.2).tail, by rw [List.length_append]; have := hG.2.2; simp; omega, List.append_nil _⟩)
     clear hG HG hsn hO hO'
     have hbO := World.alloc_heap_new wr (.cells #[.int .i32 xa, .bool true, .int .u8 xc, .int .i64 xo] 96)
     have hrowB := ownsRow_ext HROW.out.1 ((Ext.refl wr).alloc (.cells #[.int .i32 xa, .bool true, .int .u8 xc, .int .i64 xo] 96))
     have hxB := HROW.out.2.alloc (.cells #[.int .i32 xa, .bool true, .int .u8 xc, .int .i64 xo] 96)
     have hnew := World.alloc_heap_new (wr.alloc (.cells #[.int .i32 xa, .bool true, .int .u8 xc, .int .i64 xo] 96)) (.cells #[.int .i32 xa, .bool true, .int .u8 xc, .int .i64 xo] 96)
     rw [World.size_alloc] at hnew
     have HB := Lib.hid (And.intro (ownsRow_ext hrowB ((Ext.refl _).alloc (.cells #[.int .i32 xa, .bool true, .int .u8 xc, .int .i64 xo] 96))) (And.intro (hxB.alloc (.cells #[.int .i32 xa, .bool true, .int .u8 xc, .int .i64 xo] 96)) hnew))
     clear hbO hrowB hxB hnew HROW hx
     go_wp2_with (at_builtin; refine Hid.out ?_)
     refine Lib.hid ?_
     refine wpList_apps rfl (.tmp 81) (.tmp 83) 91 rfl 96 i0 (.agg #[.int .i32 0, .bool false, .int .u8 0, .int .i64 0]) 4 16 Tryz.underlying91 hi0 hz0 hz1 hz3 rfl (by decide) rfl HB.out.1 HB.out.2.1 [.int .i32 xa, .bool true, .int .u8 xc, .int .i64 xo] (wr.heap.size + 1) 0 1 1 rfl rfl ?ka4 (by intro u hu; simp at hu; rcases hu with rfl | rfl | rfl | rfl <;> rfl) ?kb4 (by decide) ?_
     case kb4 => omega
     case ka4 =>
      intro q hq
      match q, hq with
      | 0, _ => exact (cell_blk HB.out.2.2 0).trans rfl
      | 1, _ => exact (cell_blk HB.out.2.2 1).trans rfl
      | 2, _ => exact (cell_blk HB.out.2.2 2).trans rfl
      | 3, _ => exact (cell_blk HB.out.2.2 3).trans rfl
     intro v' w4 hown4 hx4 _
     have HO4 := Lib.hid (And.intro hown4 hx4)
     clear hown4 hx4 HB
     go_wp2_with fail
     refine ⟨⟨i + 1, (O ++ [x]), (none : Option (El × List El)), by simp, by omega, rfl, Lib.hid ⟨HE.out.1, HE.out.2.1, ?_⟩, ?_, HO4.out.2⟩, by simp [intOf]; omega⟩
     ·rw [HE.out.2.2.2]
      exact HE.out.2.2.1
     have e : elRs O ++ [.int .i32 xa, .bool true, .int .u8 xc, .int .i64 xo] = elRs (O ++ [x]) := by
      rw [elRs_append]
      show _ = elRs O ++ (elR x ++ [])
      rw [List.append_nil, HV.out.1]
     have h4 := HO4.out.1
     rw [e, show O.length + 1 = (O ++ [x]).length by simp, ← HE.out.2.2.2] at h4
     exact h4
    | false =>
     obtain ⟨go, post2, rfl, hgo, hAo, hco, hmo, hso⟩ := arrR_of HROW.out.1 (by rw [hO']; simp)
     have hsO : O[D.length]'hDO = s := by subst hO'; simp
     obtain ⟨o0, -, -, -⟩ := hAo.get hDO
     have hsr : aR s = s.r := by unfold aR; rw [if_neg (by rw [hG.2.1.1]; simp)]
     rw [hsO, hsr] at o0
     obtain ⟨sr, hsr2⟩ : ∃ z, s.r = z := ⟨_, rfl⟩
     rw [hsr2] at o0
     have hxr : x.r = xa := by
      rw [← HV.out.2.2.2.1]
      unfold aR
      rw [if_neg (by rw [HV.out.2.2.1]; simp)]
     have HJN := Lib.hid (fun w2 h2 => c_rJoin tB sr xa w2 h2)
     obtain ⟨ro, hro⟩ : ∃ o, jnT sr xa = o := ⟨_, rfl⟩
     rw [hro] at HJN
     have HRO := Lib.hid (show jnT s.r x.r = ro by rw [hsr2, hxr]; exact hro)
     have HOO := Lib.hid (And.intro hO' (And.intro hG (And.intro hco (And.intro hmo (And.intro hso hgo)))))
     clear hG HG hsn hO hO' hsO hsr hsr2 hxr hro hco hmo hso hgo
     go_wp2_with fail
     have hbO := World.alloc_heap_new wr (.cells #[.int .i32 xa, .bool false, .int .u8 xc, .int .i64 xo] 96)
     have hxO := (Ext.refl wr).alloc (.cells #[.int .i32 xa, .bool false, .int .u8 xc, .int .i64 xo] 96)
     generalize wr.alloc (.cells #[.int .i32 xa, .bool false, .int .u8 xc, .int .i64 xo] 96) = wO at hbO hxO ⊢
     generalize wr.heap.size = xB at hbO ⊢
     have HW := Lib.hid (And.intro (show ArrR wO go O post2 from hxO.blk hAo) (And.intro hbO (HROW.out.2.trans hxO)))
     have m0 : ∀ w', EOn (fun _ => True) wO w' → w'.cell? ⟨go, D.length * 4, none⟩ = some (.int .i32 sr) := fun w' hx' => hx'.cell trivial (hxO.cell o0)
     have m1 : ∀ w', EOn (fun _ => True) wO w' → w'.cell? ⟨xB, 0, none⟩ = some (.int .i32 xa) := fun w' hx' => hx'.cell trivial ((cell_blk hbO 0).trans rfl)
     clear hbO hxO hAo HROW hx o0
     refine wp_lex (fun _ => True) [true, true, true, true, true, true, true, true, false, true, true, true, true, true] (by kernel_rfl) (by kernel_rfl) ?_
     repeat first
      | refine wpG_move' ?_
      | refine wpG_assign' ?_
      | refine wpG_val' ?_
      | refine wpG_no' ?_
     clear m0 m1
     refine wpG_do (by rfl) (fun w8 hx8 K hK => ?_)
     go_wp2_with fail
     refine (HJN.out w8 (HL.out.2.2.mono (HW.out.2.2.trans hx8))).mono ?_
     rintro e w9 ⟨rfl, hx9⟩
     obtain ⟨r0, hr0⟩ : ∃ z, ro.getD 0 = z := ⟨_, rfl⟩
     obtain ⟨q0, hq0⟩ : ∃ z, ro.isSome = z := ⟨_, rfl⟩
     rw [hr0, hq0]
     have HQ := Lib.hid (And.intro hr0 hq0)
     refine hK _ _ ⟨EOn.of_ext hx9, ?_⟩
     clear hK hr0 hq0
     repeat first
      | refine wpG_move' ?_
      | refine wpG_assign' ?_
      | refine wpG_val' ?_
      | refine wpG_no' ?_
     refine wpG_end (fun w10 hx10 => ?_)
     have hx110 := hx8.trans (hx9.trans hx10)
     replace HW := Lib.hid (And.intro (show ArrR w10 go O post2 from hx110.blk HW.out.1) (And.intro (hx110.blk HW.out.2.1) (HW.out.2.2.trans hx110)))
     clear hx8 hx9 hx10 hx110
     go_wp2_with fail
     refine gQ_normal ?_
     have hOI : ((O.length : Nat) : Int) ≤ 20000000 := by omega
     have hD0 : ((D.length : Nat) : Int) < (O.length : Nat) := by omega
     go_wp2_with fail
     go_loopw [10, 11] (fun qv kv W => ∃ kk : Nat, kv = .int .i64 (kk : Nat) ∧ D.length + 1 ≤ kk ∧ kk ≤ O.length ∧ (∃ q : Bool, qv = .bool q ∧ Hid (q = (q0 && allB xo ((O.take kk).drop (D.length + 1))))) ∧ Hid (ArrR W go O post2 ∧ W.heap[xB]? = some (.cells #[.int .i32 xa, .bool false, .int .u8 xc, .int .i64 xo] 96 (0, 0)) ∧ Ext w W)) (fun _ kv _ => O.length + 1 - (intOf kv).toNat)
     case atStart => exact ⟨D.length + 1, by simp, by omega, by omega, ⟨q0, rfl, Lib.hid (by rw [List.drop_eq_nil_of_le (by rw [List.length_take]; omega)]; simp [allB])⟩, HW⟩
     case round =>
      obtain ⟨kk, rfl, hk1, hk2, ⟨q, rfl, HQQ⟩, HW2⟩ := hrel
      by_cases hkl : kk < O.length
      ·have hdk : decide (kk < O.length) = true := decide_eq_true hkl
       have hkI : ((kk : Nat) : Int) < (O.length : Nat) := by omega
       obtain ⟨y, hy⟩ : ∃ y, O[kk] = y := ⟨_, rfl⟩
       obtain ⟨-, -, -, c3⟩ := HW2.out.1.get hkl
       rw [hy] at c3
       have hstep : allB xo ((O.take (kk + 1)).drop (D.length + 1)) = (allB xo ((O.take kk).drop (D.length + 1)) && (decide (0 < y.ord) && decide (y.ord < xo))) := by
        rw [List.take_add_one, List.getElem?_eq_getElem hkl, hy, List.drop_append_of_le_length (by rw [List.length_take]; omega)]
        unfold allB
        rw [List.all_append]
        simp
       obtain ⟨yo, hyo⟩ : ∃ z, y.ord = z := ⟨_, rfl⟩
       rw [hyo] at c3 hstep
       have n0 : ∀ w', EOn (fun _ => True) wr w' → w'.cell? ⟨go, kk * 4 + 3, none⟩ = some (.int .i64 yo) := fun w' hx' => hx'.cell trivial c3
       have n1 : ∀ w', EOn (fun _ => True) wr w' → w'.cell? ⟨xB, 3, none⟩ = some (.int .i64 xo) := fun w' hx' => hx'.cell trivial ((cell_blk HW2.out.2.1 3).trans rfl)
       have HST := Lib.hid (show (q0 && allB xo ((O.take (kk + 1)).drop (D.length + 1))) = (q && (decide (0 < yo) && decide (yo < xo))) by
        rw [hstep, HQQ.out, Bool.and_assoc])
       clear c3 hstep hy hyo
       cases q with
       | false =>
        have HRES := Lib.hid (show false = (q0 && allB xo ((O.take (kk + 1)).drop (D.length + 1))) by rw [HST.out]; rfl)
        clear HST HQQ
        go_wp2_with fail
        refine wp_lex (fun _ => True) [true, true, true, true, true, true, true, true, true, true, true, true, true, true, true, true, true, true, true, true] (by kernel_rfl) (by kernel_rfl) ?_
        repeat first
         | refine wpG_move' ?_
         | refine wpG_assign' ?_
         | refine wpG_val' ?_
         | refine wpG_no' ?_
        clear n0 n1
        refine wpG_end (fun w12 hx12 => ?_)
        replace HW2 := Lib.hid (And.intro (show ArrR w12 go O post2 from hx12.blk HW2.out.1) (And.intro (hx12.blk HW2.out.2.1) (HW2.out.2.2.trans hx12)))
        clear hx12
        go_wp2_with fail
        refine gQ_normal ?_
        go_wp2_with fail
        go_roundw
        case rel => exact ⟨kk + 1, by simp, by omega, by omega, ⟨_, rfl, HRES⟩, HW2⟩
        case measure => simp [intOf]; omega
       | true =>
        by_cases h0 : 0 < yo
        ·have e0 := decide_eq_true h0
         by_cases h1 : yo < xo
         ·have e1 := decide_eq_true h1
          have HRES := Lib.hid (show true = (q0 && allB xo ((O.take (kk + 1)).drop (D.length + 1))) by rw [HST.out, e0, e1]; rfl)
          clear HST HQQ
          go_wp2_with fail
          refine wp_lex (fun _ => True) [true, true, true, true, true, true, true, true, true, true, true, true, true, true, true, true, true, true, true, true] (by kernel_rfl) (by kernel_rfl) ?_
          repeat first
           | refine wpG_move' ?_
           | refine wpG_assign' ?_
           | refine wpG_val' ?_
           | refine wpG_no' ?_
          clear n0 n1
          refine wpG_end (fun w12 hx12 => ?_)
          replace HW2 := Lib.hid (And.intro (show ArrR w12 go O post2 from hx12.blk HW2.out.1) (And.intro (hx12.blk HW2.out.2.1) (HW2.out.2.2.trans hx12)))
          clear hx12
          go_wp2_with fail
          refine gQ_normal ?_
          go_wp2_with fail
          go_roundw
          case rel => exact ⟨kk + 1, by simp, by omega, by omega, ⟨_, rfl, HRES⟩, HW2⟩
          case measure => simp [intOf]; omega
         ·have e1 := decide_eq_false h1
          have HRES := Lib.hid (show false = (q0 && allB xo ((O.take (kk + 1)).drop (D.length + 1))) by rw [HST.out, e0, e1]; rfl)
          clear HST HQQ
          go_wp2_with fail
          refine wp_lex (fun _ => True) [true, true, true, true, true, true, true, true, true, true, true, true, true, true, true, true, true, true, true, true] (by kernel_rfl) (by kernel_rfl) ?_
          repeat first
           | refine wpG_move' ?_
           | refine wpG_assign' ?_
           | refine wpG_val' ?_
           | refine wpG_no' ?_
          clear n0 n1
          refine wpG_end (fun w12 hx12 => ?_)
          replace HW2 := Lib.hid (And.intro (show ArrR w12 go O post2 from hx12.blk HW2.out.1) (And.intro (hx12.blk HW2.out.2.1) (HW2.out.2.2.trans hx12)))
          clear hx12
          go_wp2_with fail
          refine gQ_normal ?_
          go_wp2_with fail
          go_roundw
          case rel => exact ⟨kk + 1, by simp, by omega, by omega, ⟨_, rfl, HRES⟩, HW2⟩
          case measure => simp [intOf]; omega
        ·have e0 := decide_eq_false h0
         have HRES := Lib.hid (show false = (q0 && allB xo ((O.take (kk + 1)).drop (D.length + 1))) by rw [HST.out, e0]; rfl)
         clear HST HQQ
         go_wp2_with fail
         refine wp_lex (fun _ => True) [true, true, true, true, true, true, true, true, true, true, true, true, true, true, true, true, true, true, true, true] (by kernel_rfl) (by kernel_rfl) ?_
         repeat first
          | refine wpG_move' ?_
          | refine wpG_assign' ?_
          | refine wpG_val' ?_
          | refine wpG_no' ?_
         clear n0 n1
         refine wpG_end (fun w12 hx12 => ?_)
         replace HW2 := Lib.hid (And.intro (show ArrR w12 go O post2 from hx12.blk HW2.out.1) (And.intro (hx12.blk HW2.out.2.1) (HW2.out.2.2.trans hx12)))
         clear hx12
         go_wp2_with fail
         refine gQ_normal ?_
         go_wp2_with fail
         go_roundw
         case rel => exact ⟨kk + 1, by simp, by omega, by omega, ⟨_, rfl, HRES⟩, HW2⟩
         case measure => simp [intOf]; omega
      ·have hdk : decide (kk < O.length) = false := decide_eq_false hkl
       have hkI : ¬ ((kk : Nat) : Int) < (O.length : Nat) := by omega
       have hq := HQQ.out
       rw [List.take_of_length_le (by omega)] at hq
       have hdb : O.drop (D.length + 1) = b := by
        rw [HOO.out.1, List.drop_append]
        simp
       rw [hdb] at hq
       have HALL := Lib.hid (show q = true ↔ ∃ r, ro = some r ∧ free b x = true by
        have h1 := free_iff (x := x) (t := L.drop (i + 1)) HOO.out.2.1.2.1.2.2 HOO.out.2.1.2.1.2.1
        rw [hq, Bool.and_eq_true, ← HQ.out.2, h1]
        constructor
        ·rintro ⟨g1, g2⟩
         obtain ⟨r, hr⟩ := Option.isSome_iff_exists.1 g1
         refine ⟨r, hr, fun y hy => ?_⟩
         have := List.all_eq_true.1 g2 y hy
         rw [Bool.and_eq_true, decide_eq_true_eq, decide_eq_true_eq] at this
         rw [HV.out.2.1]
         exact this
        ·rintro ⟨r, hr, g2⟩
         refine ⟨by rw [hr]; rfl, List.all_eq_true.2 fun y hy => ?_⟩
         have := g2 y hy
         rw [HV.out.2.1] at this
         rw [Bool.and_eq_true, decide_eq_true_eq, decide_eq_true_eq]
         exact this)
       clear hq hdb HQQ hkl hk1 hk2
       have hb3 := (cell_blk HW2.out.2.1 3).trans (show (#[Value.int .i32 xa, .bool false, .int .u8 xc, .int .i64 xo] : Array Value)[3]? = some (.int .i64 xo) from rfl)
       have hb1 := (cell_blk HW2.out.2.1 1).trans (show (#[Value.int .i32 xa, .bool false, .int .u8 xc, .int .i64 xo] : Array Value)[1]? = some (.bool false) from rfl)
       have hb0 := (cell_blk HW2.out.2.1 0).trans (show (#[Value.int .i32 xa, .bool false, .int .u8 xc, .int .i64 xo] : Array Value)[0]? = some (.int .i32 xa) from rfl)
       have hb2 := (cell_blk HW2.out.2.1 2).trans (show (#[Value.int .i32 xa, .bool false, .int .u8 xc, .int .i64 xo] : Array Value)[2]? = some (.int .u8 xc) from rfl)
       cases q with
       | true =>
        have hDO2 : D.length < O.length := by rw [HOO.out.1]; simp
        obtain ⟨o0, -, -, -⟩ := HW2.out.1.get hDO2
        obtain ⟨r, hr, hfr⟩ := HALL.out.1 rfl
        have hsO : O[D.length]'hDO2 = s := by
         have := HOO.out.1
         subst this
         simp
        rw [hsO] at o0
        have hsb := HOO.out.2.1.2.1.1
        have hset := HW2.out.1.setr hDO2 (by rw [hsO]; exact hsb) r
        rw [hsO] at hset
        have hrr : r0 = r := by rw [← HQ.out.1, hr]; rfl
        have hO2 : O.set D.length { s with r := r } = D ++ stL (some ({ s with r := r }, b)) := by
         rw [HOO.out.1]
         simp [stL]
        have hE : J jnT none L = D ++ J jnT (some ({ s with r := r }, b)) (L.drop (i + 1)) ∧ StR (L.drop (i + 1)) (some ({ s with r := r }, b)) := by
         have hg := HOO.out.2.1
         refine ⟨?_, hsb, hg.2.1.2.1, Srt_skip hg.2.1.2.2 (free_all hg.2.1.2.2 hg.2.1.2.1 hfr)⟩
         rw [hg.1, J_join (by rw [HV.out.2.2.1]; simp) hfr (by rw [HRO.out]; exact hr)]
        have HE := Lib.hid (And.intro hE (And.intro hO2 hset))
        have HX := Lib.hid (HW2.out.2.2.setCell HOO.out.2.2.2.2.2 (p := ⟨go, D.length * 4, none⟩) (.int .i32 r))
        have hfz := frz_blk HW2.out.1 (D.length * 4)
        rw [hrr]
        clear hr hfr hsO hsb hset hO2 hE hDO2 hrr
        go_wp2_with fail
        refine ⟨⟨i + 1, D, some ({ s with r := r }, b), by simp, by omega, rfl, Lib.hid ⟨HE.out.1.1, HE.out.1.2, ?_⟩, ?_, HX.out⟩, by simp [intOf]; omega⟩
        ·rw [← HE.out.2.1, List.length_set]
         have := HOO.out.2.1.2.2
         omega
        ·rw [← HE.out.2.1]
         have h3 := HOO.out.2.2.2.2.1
         have h2 := own_of_arr HE.out.2.2 HOO.out.2.2.2.2.2 (by rw [List.length_set]; exact HOO.out.2.2.1) HOO.out.2.2.2.1 (by
          rw [List.length_append, elRs_length] at h3 ⊢
          rw [List.length_set]
          exact h3)
         rw [List.length_set] at h2 ⊢
         exact h2
       | false =>
        have NOJ : free b x = true → jnT s.r x.r = none := fun hf => by
         rw [HRO.out]
         cases hro : ro with
         | none => rfl
         | some r => exact absurd (HALL.out.2 ⟨r, hro, hf⟩) (by simp)
        by_cases h0 : xo = 0
        ·have hbz : (xo == 0) = true := by rw [h0]; rfl
         have HE := Lib.hid (show J jnT none L = O ++ J jnT (some (x, [])) (L.drop (i + 1)) ∧ StR (L.drop (i + 1)) (some (x, [])) ∧ (O ++ [x]).length ≤ i + 1 ∧ O ++ stL (some (x, [])) = O ++ [x] from by
          have hg := HOO.out.2.1
          refine ⟨?_, ⟨HV.out.2.2.1, fun y hy => by simp at hy, show Srt (L.drop (i + 1)) from (Srt_drop hg.2.1.2.2).tail⟩, by rw [List.length_append]; have := hg.2.2; simp; omega, rfl⟩
          rw [hg.1, J_start (by rw [HV.out.2.2.1]; simp) NOJ (by rw [HV.out.2.1, h0]; omega), HOO.out.1]
          simp)
         clear h0 HALL
         have hrowC := own_of_arr HW2.out.1 HOO.out.2.2.2.2.2 HOO.out.2.2.1 HOO.out.2.2.2.1 HOO.out.2.2.2.2.1
         have HB := Lib.hid (And.intro hrowC HW2.out.2.2)
         clear hrowC HW2 NOJ
         go_wp2_with (at_builtin; refine Hid.out ?_)
         refine Lib.hid ?_
         refine wpList_app rfl (.tmp 81) (.tmp 83) 91 rfl 96 i0 (.agg #[.int .i32 0, .bool false, .int .u8 0, .int .i64 0]) 4 16 Tryz.underlying91 hi0 hz0 hz1 hz3 rfl (by decide) rfl HB.out.1 HB.out.2 [.int .i32 xa, .bool false, .int .u8 xc, .int .i64 xo] rfl rfl (by intro u hu; simp at hu; rcases hu with rfl | rfl | rfl | rfl <;> rfl) ?kc5 (by decide) ?_
         case kc5 => omega
         intro v' w4 hown4 hx4 _
         have HO4 := Lib.hid (And.intro hown4 hx4)
         clear hown4 hx4 HB
         go_wp2_with fail
         refine ⟨⟨i + 1, O, (some (x, [])), by simp, by omega, rfl, Lib.hid ⟨HE.out.1, HE.out.2.1, ?_⟩, ?_, HO4.out.2⟩, by simp [intOf]; omega⟩
         ·rw [HE.out.2.2.2]
          exact HE.out.2.2.1
         have e : elRs O ++ [.int .i32 xa, .bool false, .int .u8 xc, .int .i64 xo] = elRs (O ++ [x]) := by
          rw [elRs_append]
          show _ = elRs O ++ (elR x ++ [])
          rw [List.append_nil, HV.out.1]
         have h4 := HO4.out.1
         rw [e, show O.length + 1 = (O ++ [x]).length by simp, ← HE.out.2.2.2] at h4
         exact h4
        ·have hbz : (xo == 0) = false := beq_false_of_ne h0
         have HE := Lib.hid (show J jnT none L = D ++ J jnT (some (s, b ++ [x])) (L.drop (i + 1)) ∧ StR (L.drop (i + 1)) (some (s, b ++ [x])) ∧ (O ++ [x]).length ≤ i + 1 ∧ D ++ stL (some (s, b ++ [x])) = O ++ [x] from by
          have hg := HOO.out.2.1
          have hpos : 0 < x.ord := by rw [HV.out.2.1]; have := HV.out.2.2.2.2; omega
          refine ⟨?_, ⟨hg.2.1.1, fun y hy => ?_, by simpa using hg.2.1.2.2⟩, by rw [List.length_append]; have := hg.2.2; simp; omega, by rw [HOO.out.1]; simp [stL]⟩
          ·rw [hg.1, J_mark (by rw [HV.out.2.2.1]; simp) NOJ hpos]
          ·rcases List.mem_append.1 hy with hy | hy
           ·exact hg.2.1.2.1 y hy
           ·simp at hy
            subst hy
            exact hpos)
         clear h0 HALL
         have hrowC := own_of_arr HW2.out.1 HOO.out.2.2.2.2.2 HOO.out.2.2.1 HOO.out.2.2.2.1 HOO.out.2.2.2.2.1
         have HB := Lib.hid (And.intro hrowC HW2.out.2.2)
         clear hrowC HW2 NOJ
         go_wp2_with (at_builtin; refine Hid.out ?_)
         refine Lib.hid ?_
         refine wpList_app rfl (.tmp 81) (.tmp 83) 91 rfl 96 i0 (.agg #[.int .i32 0, .bool false, .int .u8 0, .int .i64 0]) 4 16 Tryz.underlying91 hi0 hz0 hz1 hz3 rfl (by decide) rfl HB.out.1 HB.out.2 [.int .i32 xa, .bool false, .int .u8 xc, .int .i64 xo] rfl rfl (by intro u hu; simp at hu; rcases hu with rfl | rfl | rfl | rfl <;> rfl) ?kc6 (by decide) ?_
         case kc6 => omega
         intro v' w4 hown4 hx4 _
         have HO4 := Lib.hid (And.intro hown4 hx4)
         clear hown4 hx4 HB
         go_wp2_with fail
         refine ⟨⟨i + 1, D, (some (s, b ++ [x])), by simp, by omega, rfl, Lib.hid ⟨HE.out.1, HE.out.2.1, ?_⟩, ?_, HO4.out.2⟩, by simp [intOf]; omega⟩
         ·rw [HE.out.2.2.2]
          exact HE.out.2.2.1
         have e : elRs O ++ [.int .i32 xa, .bool false, .int .u8 xc, .int .i64 xo] = elRs (O ++ [x]) := by
          rw [elRs_append]
          show _ = elRs O ++ (elR x ++ [])
          rw [List.append_nil, HV.out.1]
         have h4 := HO4.out.1
         rw [e, show O.length + 1 = (O ++ [x]).length by simp, ← HE.out.2.2.2] at h4
         exact h4
  ·have hd : decide (i < L.length) = false := decide_eq_false hlt
   have hI : ¬ ((i : Nat) : Int) < (L.length : Nat) := by omega
   have hG := HG.out.1
   rw [List.drop_eq_nil_of_le (by omega)] at hG
   have hG2 : J jnT none L = D ++ stL st := by
    rw [hG]
    cases st with
    | none => rfl
    | some sb => rfl
   obtain ⟨O, hO⟩ : ∃ O, D ++ stL st = O := ⟨_, rfl⟩
   rw [hO] at hrow hG2 ⊢
   have HROW := Lib.hid (And.intro hrow hx)
   have HG2 := Lib.hid hG2
   clear hrow hx hG hG2 HG hO
   go_wp2_with fail
   go_ret
   rw [HG2.out]
   exact ⟨_, rfl, HROW.out.1, HROW.out.2⟩
end Go.Proofs.YtokeamebcdhnpaaGreatDoor
end

section
namespace Go.Proofs.YtokeamebcdhnpaaGreatDoor
open Go.RowKit Go.Rp Go.Shelf Go.Maps Go.Nm

def hexOkB (dec : Bool) : List Nat → Nat → Nat → Bool
 | [], n, _ => Nat.blt n 16777216
 | c :: t, n, k => Nat.blt n 16777216 && (bif Nat.beq c 32 then hexOkB dec t 0 (k + 1) else (Nat.ble 48 c && Nat.blt c 91 && hexOkB dec t ((if dec = true ∧ k = 3 then 10 else 16) * n + digR c) k))
theorem hexOk_of (dec : Bool) : ∀ (l : List Nat) (n k : Nat), hexOkB dec l n k = true → hexOk dec l n k
 | [], n, k, h => Nat.le_of_ble_eq_true h
 | c :: t, n, k, h => by
  rw [hexOkB, Bool.and_eq_true] at h
  refine ⟨Nat.le_of_ble_eq_true h.1, ?_⟩
  by_cases hc : c = 32
  ·subst hc
   rw [if_pos rfl]
   exact hexOk_of dec t _ _ h.2
  ·have hb : Nat.beq c 32 = false := by
    cases hq : Nat.beq c 32 with
    | false => rfl
    | true => exact absurd (Nat.eq_of_beq_eq_true hq) hc
   have h2 := h.2
   rw [hb, cond_false, Bool.and_eq_true, Bool.and_eq_true] at h2
   rw [if_neg hc]
   exact ⟨Nat.le_of_ble_eq_true h2.1.1, Nat.le_of_ble_eq_true h2.1.2, hexOk_of dec t _ _ h2.2⟩
def rdOkB (dec : Bool) : List Nat → List Nat → Bool
 | [], _ => true
 | c :: t, cur => bif Nat.beq c 10 then hexOkB dec cur 0 1 && rdOkB dec t [] else rdOkB dec t (cur ++ [c])
theorem rdOk_of (dec : Bool) : ∀ (l cur : List Nat), rdOkB dec l cur = true → rdOk dec l cur
 | [], _, _ => trivial
 | c :: t, cur, h => by
  rw [rdOkB] at h
  rw [rdOk]
  by_cases hc : c = 10
  ·subst hc
   rw [if_pos rfl]
   have h2 : (hexOkB dec cur 0 1 && rdOkB dec t []) = true := h
   rw [Bool.and_eq_true] at h2
   exact ⟨hexOk_of dec _ _ _ h2.1, rdOk_of dec t [] h2.2⟩
  ·have hb : Nat.beq c 10 = false := by
    cases hq : Nat.beq c 10 with
    | false => rfl
    | true => exact absurd (Nat.eq_of_beq_eq_true hq) hc
   rw [hb, cond_false] at h
   rw [if_neg hc]
   exact rdOk_of dec t _ h
theorem rokA : rdOkB false (byts textA) [] = true := by kernel_rfl
theorem rokK : rdOkB false (byts textK) [] = true := by kernel_rfl
theorem rokX : rdOkB false (byts textX) [] = true := by kernel_rfl
theorem rokO : rdOkB true (byts textO) [] = true := by kernel_rfl
theorem calls_str2 {P : Program} {f : FuncId} {s s' : ByteArray} {d : Value} {w : World} {R : Ending → World → Prop} (e : s' = s) (h : Calls P f #[.string s', d] w R) : Calls P f #[.string s, d] w R := by rw [← e]; exact h
set_option maxRecDepth 100000 in
set_option maxHeartbeats 8000000 in
theorem c_rTables (w : World) : Calls Tryz.prog 29 #[] w fun e w' => ∃ tB, e = .returned (.pointer (some ⟨tB, 0, none⟩)) ∧ RTab w' tB ∧ Ext w w' := by
 go_enter Tryz.func29, Tryz.ntmps29
 go_wp2_with fail
 refine calls_str2 (s' := textA) (by kernel_rfl) ?_
 refine (c_rread textA false w hA0.1 (rdOk_of _ _ _ rokA)).mono ?_
 rintro e w1 ⟨vA, vsA, rfl, hrA, hlA, hxA⟩
 have hrA : w1.ownsRow w.heap.size 123 2 vA rA.length vsA := hrA
 obtain ⟨pA, cA, rfl⟩ := own_slice hrA
 have LA := Lib.hid (ltab_of hrA hlA)
 have HX1 := Lib.hid hxA
 clear hxA hrA hlA
 go_wp2_with fail
 refine calls_str2 (s' := textK) (by kernel_rfl) ?_
 refine (c_rread textK false w1 hK0.1 (rdOk_of _ _ _ rokK)).mono ?_
 rintro e w2 ⟨vK, vsK, rfl, hrK, hlK, hxK⟩
 have hrK : w2.ownsRow w1.heap.size 123 2 vK rK.length vsK := hrK
 obtain ⟨pK, cK, rfl⟩ := own_slice hrK
 have LK := Lib.hid (ltab_of hrK hlK)
 have HX2 := Lib.hid hxK
 clear hxK hrK hlK
 go_wp2_with fail
 refine calls_str2 (s' := textX) (by kernel_rfl) ?_
 refine (c_rread textX false w2 hX0.1 (rdOk_of _ _ _ rokX)).mono ?_
 rintro e w3 ⟨vX, vsX, rfl, hrX, hlX, hxX⟩
 have hrX : w3.ownsRow w2.heap.size 123 2 vX rX.length vsX := hrX
 obtain ⟨pX, cX, rfl⟩ := own_slice hrX
 have LX := Lib.hid (ltab_of hrX hlX)
 have HX3 := Lib.hid hxX
 clear hxX hrX hlX
 go_wp2_with fail
 refine calls_str2 (s' := textO) (by kernel_rfl) ?_
 refine (c_rread textO true w3 hO0.1 (rdOk_of _ _ _ rokO)).mono ?_
 rintro e w4 ⟨vO, vsO, rfl, hrO, hlO, hxO⟩
 have hrO : w4.ownsRow w3.heap.size 123 2 vO rO.length vsO := hrO
 obtain ⟨pO, cO, rfl⟩ := own_slice hrO
 have LO := Lib.hid (ltab_of hrO hlO)
 have HX4 := Lib.hid hxO
 clear hxO hrO hlO
 go_wp2_with fail
 have hb := World.alloc_heap_new w4 (.cells #[.slice pA rA.length cA, .slice pK rK.length cK, .slice pX rX.length cX, .slice pO rO.length cO] 79)
 have hx5 := (Ext.refl w4).alloc (.cells #[.slice pA rA.length cA, .slice pK rK.length cK, .slice pX rX.length cX, .slice pO rO.length cO] 79)
 have H5 := Lib.hid (show RTab (w4.alloc (.cells #[.slice pA rA.length cA, .slice pK rK.length cK, .slice pX rX.length cX, .slice pO rO.length cO] 79)) w4.heap.size ∧ Ext w (w4.alloc (.cells #[.slice pA rA.length cA, .slice pK rK.length cK, .slice pX rX.length cX, .slice pO rO.length cO] 79)) from
  ⟨⟨_, _, _, _, hb, LA.out.mono (HX2.out.trans (HX3.out.trans (HX4.out.trans hx5))), LK.out.mono (HX3.out.trans (HX4.out.trans hx5)), LX.out.mono (HX4.out.trans hx5), LO.out.mono hx5⟩, HX1.out.trans (HX2.out.trans (HX3.out.trans (HX4.out.trans hx5)))⟩)
 clear hb hx5
 go_ret
 exact ⟨_, rfl, H5.out.1, H5.out.2⟩
end Go.Proofs.YtokeamebcdhnpaaGreatDoor
end

section
namespace Go.Proofs.YtokeamebcdhnpaaGreatDoor
open Go.RowKit Go.Rp Go.Shelf Go.Maps Go.Nm

theorem info8 : (Tryz.prog.info? 5).map (fun i => (i.zero, i.size, i.bytes)) = some (some (.int .u8 0), 1, 1) := by kernel_rfl
theorem conv_rowR {W : World} {B : Nat} {v : Value} {F : List UInt8} (h : W.ownsRow B 5 1 v F.length (Lib.byteCells F)) (w' : World) (hx : Ext W w') : (convert 34 9 v).run Tryz.prog w' = .ok (.string ⟨F.toArray⟩) w' := by
 obtain ⟨p, c, rfl⟩ := own_slice h
 by_cases h0 : F = []
 ·subst h0
  rcases h.2 with ⟨e, _⟩ | ⟨g, cap', cur, e, _⟩
  ·cases e
   exact run_convert_bytes_nil (P := Tryz.prog) w' 34 5 Tryz.underlying34 Tryz.underlying5 _ _ _ Tryz.underlying9
  ·cases e
   exact run_convert_bytes_back (P := Tryz.prog) w' 34 9 5 _ _ [] Tryz.underlying34 Tryz.underlying5 Tryz.underlying9 (fun j hj => by cases hj)
 ·have hl : 0 < F.length := List.length_pos_iff.2 h0
  obtain ⟨g, rfl, _, _, hg⟩ := own_at h hl
  exact run_convert_bytes_back (P := Tryz.prog) w' 34 9 5 ⟨g, 0, none⟩ c F Tryz.underlying34 Tryz.underlying5 Tryz.underlying9 (fun j hj => by
   have hadd : (⟨g, 0, none⟩ : Addr).add j = ⟨g, j, none⟩ := by unfold Addr.add; split <;> simp_all
   rw [hadd]
   refine hx.cell ((hg j (by omega)).trans ?_)
   simp [Lib.byteCells, List.getElem?_eq_getElem hj])
set_option maxRecDepth 100000 in
set_option maxHeartbeats 8000000 in
theorem c_rForm (tB : Nat) (s : ByteArray) (f : Int) (w : World) (h : RTab w tB) (hs : s.size ≤ 1000000) :
  Calls Tryz.prog 33 #[.pointer (some ⟨tB, 0, none⟩), .string s, .int .i64 f] w fun e w' => e = .returned (.string ⟨(formT f s.data.toList).toArray⟩) ∧ Ext w w' := by
 have HR := Lib.hid (fun w => c_rRight f w)
 by_cases hf : 0 ≤ f ∧ f ≤ 3
 ·rw [decide_eq_true hf] at HR
  have HEL := Lib.hid (c_relements tB s f hf w h hs)
  obtain ⟨k, hk⟩ : ∃ k, decide (f = 2 ∨ f = 3) = k := ⟨_, rfl⟩
  have hform : formT f s.data.toList = tbT.form k (decide (f = 1 ∨ f = 3)) s.data.toList := by
   unfold formT
   rw [if_pos hf, hk]
  rw [hform]
  rw [hk] at HEL
  have HT := Lib.hid h
  have hlen : s.data.toList.length ≤ 1000000 := by rw [len_eq]; exact hs
  have hEg := E_good k s.data.toList
  have hEl := E_len k s.data.toList
  have hJ := JE_good k s.data.toList
  have hElen : (tbT.els k (rawOf s.data.toList)).length = (tbT.E k s.data.toList).length := by unfold Tb.E; rw [sortL_len]
  have hsort : tbT.E k s.data.toList = sortL (tbT.els k (rawOf s.data.toList)) := rfl
  have HK := Lib.hid (And.intro hEg (And.intro hEl (And.intro hJ (And.intro hElen (And.intro hsort hlen)))))
  clear hk h hform hEg hEl hJ hElen hsort hlen
  by_cases hc : f = 1 ∨ f = 3
  ·rw [decide_eq_true hc]
   have HJN := Lib.hid (fun n cap p w h ho => c_rjoined tB n cap p (tbT.E k s.data.toList) w h ho (sortL_srt _) (fun x hx => (HK.out.1 x hx).1.1.1) (by have := HK.out; omega))
   rcases hc with rfl | rfl
   ·clear hf
    go_enter Tryz.func33, Tryz.ntmps33
    go_wp2_with fail
    refine (HR.out w).mono ?_
    rintro e w1 ⟨rfl, e1'⟩
    obtain rfl := e1'.symm
    clear e1'
    go_wp2_with fail
    refine HEL.out.mono ?_
    rintro e w2 ⟨v2, rfl, hown2, hx2⟩
    obtain ⟨p2, cap2, rfl⟩ := own_slice hown2
    have hl2 : (tbT.els k (rawOf s.data.toList)).length ≤ 100000000 := by have := HK.out; omega
    have HSRT := Lib.hid (c_rsorted w.heap.size cap2 p2 _ w2 hown2 hx2.sz hl2)
    have HX2 := Lib.hid hx2
    clear hown2 hx2 hl2
    go_wp2_with fail
    refine HSRT.out.mono ?_
    rintro e w3 ⟨rfl, hown3, hb3⟩
    rw [← HK.out.2.2.2.2.1, HK.out.2.2.2.1] at hown3
    rw [HK.out.2.2.2.1]
    have HX3 := Lib.hid (And.intro (Below.trans HX2.out hb3) hown3)
    obtain ⟨nE, hnE⟩ : ∃ n, (tbT.E k s.data.toList).length = n := ⟨_, rfl⟩
    rw [hnE]
    have HNE := Lib.hid hnE
    clear hown3 hb3 hnE
    go_wp2_with fail
    rw [← HNE.out]
    refine (HJN.out w.heap.size cap2 p2 w3 (HT.out.mono HX3.out.1) HX3.out.2).mono ?_
    rintro e w4 ⟨v4, rfl, hown4, hx4⟩
    obtain ⟨E, hE⟩ : ∃ E, J jnT none (tbT.E k s.data.toList) = E := ⟨_, rfl⟩
    rw [hE] at hown4
    obtain ⟨p4, cap4, rfl⟩ := own_slice hown4
    have HE := Lib.hid (show w4.ownsRow w3.heap.size 96 4 (.slice p4 E.length cap4) E.length (elRs E) ∧ Ext w w4 ∧ (∀ x ∈ E, ElGood x) ∧ E.length ≤ 20000000 from
     ⟨hown4, Ext.trans (show Ext w w3 from HX3.out.1) hx4, by rw [← hE]; exact HK.out.2.2.1.1, by rw [← hE]; have := HK.out; omega⟩)
    have HFIN := Lib.hid (show tbT.form k true s.data.toList = out E by rw [← hE]; rfl)
    clear hown4 hx4 hE
    go_wp2_with fail
    obtain ⟨i0, hi0, hz0, hz1, hz3⟩ := info_parts info8
    have hLI : ((E.length : Nat) : Int) ≤ 20000000 := by have := HE.out.2.2.2; omega
    go_wp2_with fail
    go_loopw [8, 9] (fun bv iv W => ∃ i : Nat, iv = .int .i64 (i : Nat) ∧ i ≤ E.length ∧ W.ownsRow w4.heap.size 5 1 bv (out (E.take i)).length (Lib.byteCells (out (E.take i))) ∧ Ext w4 W) (fun _ iv _ => E.length + 1 - (intOf iv).toNat)
    case atStart => exact ⟨0, rfl, by omega, World.ownsRow_nil _ _ _ _, Ext.refl _⟩
    case round =>
     obtain ⟨i, rfl, hi, hrow, hx⟩ := hrel
     by_cases hlt : i < E.length
     ·have hd : decide (i < E.length) = true := decide_eq_true hlt
      have hI : ((i : Nat) : Int) < (E.length : Nat) := by omega
      obtain ⟨g, post, rfl, _, hA, -, -, -⟩ := arrR_of HE.out.1 (by intro e; subst e; simp at hlt)
      obtain ⟨c0, c1, c2, -⟩ := hA.get hlt
      replace c0 := hx.cell c0
      replace c1 := hx.cell c1
      replace c2 := hx.cell c2
      have hgood := HE.out.2.2.1 E[i] (List.getElem_mem hlt)
      have htk := out_take hlt (x := E[i]) rfl
      have hol := out_len (E.take i)
      rw [List.length_take] at hol
      have hol2 : (out (E.take i)).length ≤ 80000000 := by have := HE.out.2.2.2; omega
      obtain ⟨⟨r, o, bd⟩, hxE⟩ : ∃ x, E[i] = x := ⟨_, rfl⟩
      rw [hxE] at c0 c1 c2 hgood htk
      have HROW := Lib.hid (And.intro hrow (And.intro hx hol2))
      have hsz := hx.sz
      clear hA hxE hrow hol hol2
      cases bd with
      | true =>
       have hr : 0 ≤ r ∧ r < 256 := by
        rcases hgood.2 with h | h
        ·exact h.2
        ·have := h.1
         simp at this
       have c2 : wr.cell? ⟨g, i * 4 + 2, none⟩ = some (.int .u8 r) := c2
       have c1 : wr.cell? ⟨g, i * 4 + 1, none⟩ = some (.bool true) := c1
       obtain ⟨ch, hch1, hch2⟩ : ∃ ch : UInt8, out (E.take (i + 1)) = out (E.take i) ++ [ch] ∧ ((ch.toNat : Nat) : Int) = r := ⟨UInt8.ofNat r.toNat, htk, by simp; omega⟩
       have HTK := Lib.hid (And.intro hch1 hch2)
       clear hch1 hch2
       clear htk hgood hr c0
       go_wp2_with (at_builtin; refine Hid.out ?_)
       refine Lib.hid ?_
       refine wpList_app rfl (.tmp 40) (.tmp 46) 34 rfl 5 i0 (.int .u8 0) 1 1 Tryz.underlying34 hi0 hz0 hz1 hz3 rfl (by decide) rfl HROW.out.1 HROW.out.2.1 [.int .u8 r] rfl rfl (by intro u hu; simp at hu; subst hu; rfl) ?n1b (by decide) ?_
       case n1b => have := HROW.out.2.2; omega
       intro v' w4 hown4 hx4 _
       have HO4 := Lib.hid (And.intro hown4 hx4)
       clear hown4 hx4 HROW
       go_wp2_with fail
       refine ⟨⟨i + 1, by simp, by omega, ?_, HO4.out.2⟩, by simp [intOf]; omega⟩
       have h4 := HO4.out.1
       rw [HTK.out.1, List.length_append]
       simpa [Lib.byteCells, HTK.out.2] using h4
      | false =>
       have c0 : wr.cell? ⟨g, i * 4, none⟩ = some (.int .i32 r) := c0
       have c1 : wr.cell? ⟨g, i * 4 + 1, none⟩ = some (.bool false) := c1
       have HTK := Lib.hid (show out (E.take (i + 1)) = out (E.take i) ++ (Utf8.encode r).data.toList from htk)
       have hes : (Utf8.encode r).size ≤ 4 := by rw [← len_eq]; exact encB_len r
       have hown := HROW.out.1
       have hb9 := HROW.out.2.2
       clear htk hgood c2
       go_wp2_with (at_builtin; refine Hid.out ?_)
       refine Lib.hid ?_
       refine Lib.wpList_append_own_string _ rfl (.tmp 48) (.tmp 54) 34 9 rfl w4.heap.size 5 i0 Tryz.underlying34 Tryz.underlying9 hi0 hz0 hz1 hz3 _ _ _ rfl hown (Utf8.encode r) rfl ?n2b ?n3b ?n4b ?_
       case n2b => unfold maxLen; omega
       case n3b => omega
       case n4b => omega
       intro v' w6 hown6 hgrow6 _
       have hx6 := Below.grown HROW.out.2.1 hgrow6 hsz (fun k e => (hown.lt k e).1)
       have HO6 := Lib.hid (And.intro hown6 hx6)
       clear hown6 hx6 hgrow6 hown hsz hx HROW
       go_wp2_with fail
       refine ⟨⟨i + 1, by simp, by omega, ?_, HO6.out.2⟩, by simp [intOf]; omega⟩
       have h6 := HO6.out.1
       rw [HTK.out, List.length_append, len_eq]
       simpa [Lib.byteCells, Lib.strCells_eq] using h6
     ·have hd : decide (i < E.length) = false := decide_eq_false hlt
      have hI : ¬ ((i : Nat) : Int) < (E.length : Nat) := by omega
      rw [List.take_of_length_le (by omega)] at hrow
      obtain ⟨F, hF⟩ : ∃ F, out E = F := ⟨_, rfl⟩
      rw [hF] at hrow
      have HX := Lib.hid (And.intro (HE.out.2.1.trans hx) (show _ = F from HFIN.out.trans hF))
      have hcv := conv_rowR hrow wr (Ext.refl _)
      obtain ⟨pb, cb, rfl⟩ := own_slice hrow
      clear hrow hx hF HFIN
      go_wp2_with fail
      go_ret
      rw [HX.out.2]
      exact ⟨rfl, HX.out.1⟩
   ·clear hf
    go_enter Tryz.func33, Tryz.ntmps33
    go_wp2_with fail
    refine (HR.out w).mono ?_
    rintro e w1 ⟨rfl, e1'⟩
    obtain rfl := e1'.symm
    clear e1'
    go_wp2_with fail
    refine HEL.out.mono ?_
    rintro e w2 ⟨v2, rfl, hown2, hx2⟩
    obtain ⟨p2, cap2, rfl⟩ := own_slice hown2
    have hl2 : (tbT.els k (rawOf s.data.toList)).length ≤ 100000000 := by have := HK.out; omega
    have HSRT := Lib.hid (c_rsorted w.heap.size cap2 p2 _ w2 hown2 hx2.sz hl2)
    have HX2 := Lib.hid hx2
    clear hown2 hx2 hl2
    go_wp2_with fail
    refine HSRT.out.mono ?_
    rintro e w3 ⟨rfl, hown3, hb3⟩
    rw [← HK.out.2.2.2.2.1, HK.out.2.2.2.1] at hown3
    rw [HK.out.2.2.2.1]
    have HX3 := Lib.hid (And.intro (Below.trans HX2.out hb3) hown3)
    obtain ⟨nE, hnE⟩ : ∃ n, (tbT.E k s.data.toList).length = n := ⟨_, rfl⟩
    rw [hnE]
    have HNE := Lib.hid hnE
    clear hown3 hb3 hnE
    go_wp2_with fail
    rw [← HNE.out]
    refine (HJN.out w.heap.size cap2 p2 w3 (HT.out.mono HX3.out.1) HX3.out.2).mono ?_
    rintro e w4 ⟨v4, rfl, hown4, hx4⟩
    obtain ⟨E, hE⟩ : ∃ E, J jnT none (tbT.E k s.data.toList) = E := ⟨_, rfl⟩
    rw [hE] at hown4
    obtain ⟨p4, cap4, rfl⟩ := own_slice hown4
    have HE := Lib.hid (show w4.ownsRow w3.heap.size 96 4 (.slice p4 E.length cap4) E.length (elRs E) ∧ Ext w w4 ∧ (∀ x ∈ E, ElGood x) ∧ E.length ≤ 20000000 from
     ⟨hown4, Ext.trans (show Ext w w3 from HX3.out.1) hx4, by rw [← hE]; exact HK.out.2.2.1.1, by rw [← hE]; have := HK.out; omega⟩)
    have HFIN := Lib.hid (show tbT.form k true s.data.toList = out E by rw [← hE]; rfl)
    clear hown4 hx4 hE
    go_wp2_with fail
    obtain ⟨i0, hi0, hz0, hz1, hz3⟩ := info_parts info8
    have hLI : ((E.length : Nat) : Int) ≤ 20000000 := by have := HE.out.2.2.2; omega
    go_wp2_with fail
    go_loopw [8, 9] (fun bv iv W => ∃ i : Nat, iv = .int .i64 (i : Nat) ∧ i ≤ E.length ∧ W.ownsRow w4.heap.size 5 1 bv (out (E.take i)).length (Lib.byteCells (out (E.take i))) ∧ Ext w4 W) (fun _ iv _ => E.length + 1 - (intOf iv).toNat)
    case atStart => exact ⟨0, rfl, by omega, World.ownsRow_nil _ _ _ _, Ext.refl _⟩
    case round =>
     obtain ⟨i, rfl, hi, hrow, hx⟩ := hrel
     by_cases hlt : i < E.length
     ·have hd : decide (i < E.length) = true := decide_eq_true hlt
      have hI : ((i : Nat) : Int) < (E.length : Nat) := by omega
      obtain ⟨g, post, rfl, _, hA, -, -, -⟩ := arrR_of HE.out.1 (by intro e; subst e; simp at hlt)
      obtain ⟨c0, c1, c2, -⟩ := hA.get hlt
      replace c0 := hx.cell c0
      replace c1 := hx.cell c1
      replace c2 := hx.cell c2
      have hgood := HE.out.2.2.1 E[i] (List.getElem_mem hlt)
      have htk := out_take hlt (x := E[i]) rfl
      have hol := out_len (E.take i)
      rw [List.length_take] at hol
      have hol2 : (out (E.take i)).length ≤ 80000000 := by have := HE.out.2.2.2; omega
      obtain ⟨⟨r, o, bd⟩, hxE⟩ : ∃ x, E[i] = x := ⟨_, rfl⟩
      rw [hxE] at c0 c1 c2 hgood htk
      have HROW := Lib.hid (And.intro hrow (And.intro hx hol2))
      have hsz := hx.sz
      clear hA hxE hrow hol hol2
      cases bd with
      | true =>
       have hr : 0 ≤ r ∧ r < 256 := by
        rcases hgood.2 with h | h
        ·exact h.2
        ·have := h.1
         simp at this
       have c2 : wr.cell? ⟨g, i * 4 + 2, none⟩ = some (.int .u8 r) := c2
       have c1 : wr.cell? ⟨g, i * 4 + 1, none⟩ = some (.bool true) := c1
       obtain ⟨ch, hch1, hch2⟩ : ∃ ch : UInt8, out (E.take (i + 1)) = out (E.take i) ++ [ch] ∧ ((ch.toNat : Nat) : Int) = r := ⟨UInt8.ofNat r.toNat, htk, by simp; omega⟩
       have HTK := Lib.hid (And.intro hch1 hch2)
       clear hch1 hch2
       clear htk hgood hr c0
       go_wp2_with (at_builtin; refine Hid.out ?_)
       refine Lib.hid ?_
       refine wpList_app rfl (.tmp 40) (.tmp 46) 34 rfl 5 i0 (.int .u8 0) 1 1 Tryz.underlying34 hi0 hz0 hz1 hz3 rfl (by decide) rfl HROW.out.1 HROW.out.2.1 [.int .u8 r] rfl rfl (by intro u hu; simp at hu; subst hu; rfl) ?n1c (by decide) ?_
       case n1c => have := HROW.out.2.2; omega
       intro v' w4 hown4 hx4 _
       have HO4 := Lib.hid (And.intro hown4 hx4)
       clear hown4 hx4 HROW
       go_wp2_with fail
       refine ⟨⟨i + 1, by simp, by omega, ?_, HO4.out.2⟩, by simp [intOf]; omega⟩
       have h4 := HO4.out.1
       rw [HTK.out.1, List.length_append]
       simpa [Lib.byteCells, HTK.out.2] using h4
      | false =>
       have c0 : wr.cell? ⟨g, i * 4, none⟩ = some (.int .i32 r) := c0
       have c1 : wr.cell? ⟨g, i * 4 + 1, none⟩ = some (.bool false) := c1
       have HTK := Lib.hid (show out (E.take (i + 1)) = out (E.take i) ++ (Utf8.encode r).data.toList from htk)
       have hes : (Utf8.encode r).size ≤ 4 := by rw [← len_eq]; exact encB_len r
       have hown := HROW.out.1
       have hb9 := HROW.out.2.2
       clear htk hgood c2
       go_wp2_with (at_builtin; refine Hid.out ?_)
       refine Lib.hid ?_
       refine Lib.wpList_append_own_string _ rfl (.tmp 48) (.tmp 54) 34 9 rfl w4.heap.size 5 i0 Tryz.underlying34 Tryz.underlying9 hi0 hz0 hz1 hz3 _ _ _ rfl hown (Utf8.encode r) rfl ?n2c ?n3c ?n4c ?_
       case n2c => unfold maxLen; omega
       case n3c => omega
       case n4c => omega
       intro v' w6 hown6 hgrow6 _
       have hx6 := Below.grown HROW.out.2.1 hgrow6 hsz (fun k e => (hown.lt k e).1)
       have HO6 := Lib.hid (And.intro hown6 hx6)
       clear hown6 hx6 hgrow6 hown hsz hx HROW
       go_wp2_with fail
       refine ⟨⟨i + 1, by simp, by omega, ?_, HO6.out.2⟩, by simp [intOf]; omega⟩
       have h6 := HO6.out.1
       rw [HTK.out, List.length_append, len_eq]
       simpa [Lib.byteCells, Lib.strCells_eq] using h6
     ·have hd : decide (i < E.length) = false := decide_eq_false hlt
      have hI : ¬ ((i : Nat) : Int) < (E.length : Nat) := by omega
      rw [List.take_of_length_le (by omega)] at hrow
      obtain ⟨F, hF⟩ : ∃ F, out E = F := ⟨_, rfl⟩
      rw [hF] at hrow
      have HX := Lib.hid (And.intro (HE.out.2.1.trans hx) (show _ = F from HFIN.out.trans hF))
      have hcv := conv_rowR hrow wr (Ext.refl _)
      obtain ⟨pb, cb, rfl⟩ := own_slice hrow
      clear hrow hx hF HFIN
      go_wp2_with fail
      go_ret
      rw [HX.out.2]
      exact ⟨rfl, HX.out.1⟩
  ·rw [decide_eq_false hc]
   have e1 : (f == 1) = false := beq_false_of_ne (fun h => hc (.inl h))
   have e3 : (f == 3) = false := beq_false_of_ne (fun h => hc (.inr h))
   clear hc hf
   go_enter Tryz.func33, Tryz.ntmps33
   go_wp2_with fail
   refine (HR.out w).mono ?_
   rintro e w1 ⟨rfl, e1'⟩
   obtain rfl := e1'.symm
   clear e1'
   go_wp2_with fail
   refine HEL.out.mono ?_
   rintro e w2 ⟨v2, rfl, hown2, hx2⟩
   obtain ⟨p2, cap2, rfl⟩ := own_slice hown2
   have hl2 : (tbT.els k (rawOf s.data.toList)).length ≤ 100000000 := by have := HK.out; omega
   have HSRT := Lib.hid (c_rsorted w.heap.size cap2 p2 _ w2 hown2 hx2.sz hl2)
   have HX2 := Lib.hid hx2
   clear hown2 hx2 hl2
   go_wp2_with fail
   refine HSRT.out.mono ?_
   rintro e w3 ⟨rfl, hown3, hb3⟩
   obtain ⟨E, hE⟩ : ∃ E, tbT.E k s.data.toList = E := ⟨_, rfl⟩
   rw [← HK.out.2.2.2.2.1, HK.out.2.2.2.1, hE] at hown3
   rw [HK.out.2.2.2.1, hE]
   have HE := Lib.hid (show w3.ownsRow w.heap.size 96 4 (.slice p2 E.length cap2) E.length (elRs E) ∧ Ext w w3 ∧ (∀ x ∈ E, ElGood x) ∧ E.length ≤ 20000000 from
    ⟨hown3, Below.trans HX2.out hb3, by rw [← hE]; exact HK.out.1, by rw [← hE]; have := HK.out; omega⟩)
   have HFIN := Lib.hid (show tbT.form k false s.data.toList = out E by rw [← hE]; rfl)
   clear hown3 hb3 hE
   go_wp2_with fail
   obtain ⟨i0, hi0, hz0, hz1, hz3⟩ := info_parts info8
   have hLI : ((E.length : Nat) : Int) ≤ 20000000 := by have := HE.out.2.2.2; omega
   go_wp2_with fail
   go_loopw [8, 9] (fun bv iv W => ∃ i : Nat, iv = .int .i64 (i : Nat) ∧ i ≤ E.length ∧ W.ownsRow w3.heap.size 5 1 bv (out (E.take i)).length (Lib.byteCells (out (E.take i))) ∧ Ext w3 W) (fun _ iv _ => E.length + 1 - (intOf iv).toNat)
   case atStart => exact ⟨0, rfl, by omega, World.ownsRow_nil _ _ _ _, Ext.refl _⟩
   case round =>
    obtain ⟨i, rfl, hi, hrow, hx⟩ := hrel
    by_cases hlt : i < E.length
    ·have hd : decide (i < E.length) = true := decide_eq_true hlt
     have hI : ((i : Nat) : Int) < (E.length : Nat) := by omega
     obtain ⟨g, post, rfl, _, hA, -, -, -⟩ := arrR_of HE.out.1 (by intro e; subst e; simp at hlt)
     obtain ⟨c0, c1, c2, -⟩ := hA.get hlt
     replace c0 := hx.cell c0
     replace c1 := hx.cell c1
     replace c2 := hx.cell c2
     have hgood := HE.out.2.2.1 E[i] (List.getElem_mem hlt)
     have htk := out_take hlt (x := E[i]) rfl
     have hol := out_len (E.take i)
     rw [List.length_take] at hol
     have hol2 : (out (E.take i)).length ≤ 80000000 := by have := HE.out.2.2.2; omega
     obtain ⟨⟨r, o, bd⟩, hxE⟩ : ∃ x, E[i] = x := ⟨_, rfl⟩
     rw [hxE] at c0 c1 c2 hgood htk
     have HROW := Lib.hid (And.intro hrow (And.intro hx hol2))
     have hsz := hx.sz
     clear hA hxE hrow hol hol2
     cases bd with
     | true =>
      have hr : 0 ≤ r ∧ r < 256 := by
       rcases hgood.2 with h | h
       ·exact h.2
       ·have := h.1
        simp at this
      have c2 : wr.cell? ⟨g, i * 4 + 2, none⟩ = some (.int .u8 r) := c2
      have c1 : wr.cell? ⟨g, i * 4 + 1, none⟩ = some (.bool true) := c1
      obtain ⟨ch, hch1, hch2⟩ : ∃ ch : UInt8, out (E.take (i + 1)) = out (E.take i) ++ [ch] ∧ ((ch.toNat : Nat) : Int) = r := ⟨UInt8.ofNat r.toNat, htk, by simp; omega⟩
      have HTK := Lib.hid (And.intro hch1 hch2)
      clear hch1 hch2
      clear htk hgood hr c0
      go_wp2_with (at_builtin; refine Hid.out ?_)
      refine Lib.hid ?_
      refine wpList_app rfl (.tmp 40) (.tmp 46) 34 rfl 5 i0 (.int .u8 0) 1 1 Tryz.underlying34 hi0 hz0 hz1 hz3 rfl (by decide) rfl HROW.out.1 HROW.out.2.1 [.int .u8 r] rfl rfl (by intro u hu; simp at hu; subst hu; rfl) ?n1a (by decide) ?_
      case n1a => have := HROW.out.2.2; omega
      intro v' w4 hown4 hx4 _
      have HO4 := Lib.hid (And.intro hown4 hx4)
      clear hown4 hx4 HROW
      go_wp2_with fail
      refine ⟨⟨i + 1, by simp, by omega, ?_, HO4.out.2⟩, by simp [intOf]; omega⟩
      have h4 := HO4.out.1
      rw [HTK.out.1, List.length_append]
      simpa [Lib.byteCells, HTK.out.2] using h4
     | false =>
      have c0 : wr.cell? ⟨g, i * 4, none⟩ = some (.int .i32 r) := c0
      have c1 : wr.cell? ⟨g, i * 4 + 1, none⟩ = some (.bool false) := c1
      have HTK := Lib.hid (show out (E.take (i + 1)) = out (E.take i) ++ (Utf8.encode r).data.toList from htk)
      have hes : (Utf8.encode r).size ≤ 4 := by rw [← len_eq]; exact encB_len r
      have hown := HROW.out.1
      have hb9 := HROW.out.2.2
      clear htk hgood c2
      go_wp2_with (at_builtin; refine Hid.out ?_)
      refine Lib.hid ?_
      refine Lib.wpList_append_own_string _ rfl (.tmp 48) (.tmp 54) 34 9 rfl w3.heap.size 5 i0 Tryz.underlying34 Tryz.underlying9 hi0 hz0 hz1 hz3 _ _ _ rfl hown (Utf8.encode r) rfl ?n2a ?n3a ?n4a ?_
      case n2a => unfold maxLen; omega
      case n3a => omega
      case n4a => omega
      intro v' w6 hown6 hgrow6 _
      have hx6 := Below.grown HROW.out.2.1 hgrow6 hsz (fun k e => (hown.lt k e).1)
      have HO6 := Lib.hid (And.intro hown6 hx6)
      clear hown6 hx6 hgrow6 hown hsz hx HROW
      go_wp2_with fail
      refine ⟨⟨i + 1, by simp, by omega, ?_, HO6.out.2⟩, by simp [intOf]; omega⟩
      have h6 := HO6.out.1
      rw [HTK.out, List.length_append, len_eq]
      simpa [Lib.byteCells, Lib.strCells_eq] using h6
    ·have hd : decide (i < E.length) = false := decide_eq_false hlt
     have hI : ¬ ((i : Nat) : Int) < (E.length : Nat) := by omega
     rw [List.take_of_length_le (by omega)] at hrow
     obtain ⟨F, hF⟩ : ∃ F, out E = F := ⟨_, rfl⟩
     rw [hF] at hrow
     have HX := Lib.hid (And.intro (HE.out.2.1.trans hx) (show _ = F from HFIN.out.trans hF))
     have hcv := conv_rowR hrow wr (Ext.refl _)
     obtain ⟨pb, cb, rfl⟩ := own_slice hrow
     clear hrow hx hF HFIN
     go_wp2_with fail
     go_ret
     rw [HX.out.2]
     exact ⟨rfl, HX.out.1⟩
 ·rw [decide_eq_false hf] at HR
  have hform : formT f s.data.toList = s.data.toList := by
   unfold formT
   rw [if_neg hf]
  rw [hform]
  clear hform h hf
  go_enter Tryz.func33, Tryz.ntmps33
  go_wp2_with fail
  refine (HR.out w).mono ?_
  rintro e w1 ⟨rfl, e1'⟩
  obtain rfl := e1'.symm
  clear e1'
  go_wp2_with fail
  go_ret
  exact ⟨rfl, Ext.refl _⟩
end Go.Proofs.YtokeamebcdhnpaaGreatDoor
end
