/-
  A statement whose order is open: what only reckons comes first, then what reads, then the rest, which stands alone.
-/
import Derived.Test.YteokfknkcbmigaaDoorPlanB
namespace Go.Proofs.YteokfknkcbmigaaDoor
open Go.RowKit

section
variable {S : Addr → Prop} {P : Program} {ops : Array Oper} {md : Region.Mode} {Q : Exit → Act → World → Prop} {pre dead : Array Bool} {m : Nat}

theorem dead_set {listed : Array Bool} (h : ∀ j, dead.getD j false = true → listed.getD j true = true) (i : Nat) : ∀ j, dead.getD j false = true → (listed.setIfInBounds i true).getD j true = true := by
  intro j hj
  by_cases hji : i = j
  · subst hji
    rw [Array.getD_eq_getD_getElem?, Array.getElem?_setIfInBounds]
    simp
    split <;> simp
  · rw [getD_set_ne true hji]
    exact h j hj
theorem dead_false {listed : Array Bool} (h : ∀ j, dead.getD j false = true → listed.getD j true = true) {j : Nat} (hj : listed.getD j true = false) : dead.getD j false = false := by
  rcases Bool.eq_false_or_eq_true (dead.getD j false) with hd | hd
  · rw [h j hd] at hj; cases hj
  · exact hd
/-- The last operations, but for those that are done, wait for all the first. -/
def tailD (md : Region.Mode) (ops : Array Oper) (pre dead : Array Bool) : Bool :=
  (List.range ops.size).all fun j => pre.getD j false || (dead.getD j false || (List.range pre.size).all fun p => !pre.getD p false || ((ops[j]?).map fun o => o.after.any fun e => Region.binds md e && e.on == p).getD true)
theorem tailD_spec (h : tailD md ops pre dead = true) (j : Nat) (oj : Oper) (hj : ops[j]? = some oj) (hp : pre.getD j false = false) (hd : dead.getD j false = false) (p : Nat) (hpp : pre.getD p false = true) : ∃ e ∈ oj.after, Region.binds md e = true ∧ e.on = p := by
  simp only [tailD, List.all_eq_true, List.mem_range, Bool.or_eq_true] at h
  have h1 := ((h j (Array.getElem?_eq_some_iff.1 hj).1).resolve_left (by simp [hp])).resolve_left (by simp [hd])
  have hlt : p < pre.size := by
    rcases Nat.lt_or_ge p pre.size with g | g
    · exact g
    · simp [Array.getElem?_eq_none g] at hpp
  have h2 := (h1 p hlt).resolve_left (by simp [hpp])
  simp only [hj, Option.map_some, Option.getD_some, Array.any_eq_true', Bool.and_eq_true, beq_iff_eq] at h2
  exact h2
theorem anyD_first {i : Nat} {oi : Oper} {v : Value} (hi : ops[i]? = some oi) (hsel : ∀ (j : Nat) (o : Oper) cs b, ops[j]? = some o → o.op ≠ .select cs b)
    (hQ : ∀ c a w, ¬ Q (.panic c) a w) (hpre : pre.getD i false = true)
    (htail : ∀ j oj, ops[j]? = some oj → pre.getD j false = false → dead.getD j false = false → ∀ p, pre.getD p false = true → ∃ e ∈ oj.after, Region.binds md e = true ∧ e.on = p) :
    ∀ (n : Nat) (listed : Array Bool) (a : Act) (w : World), (∀ j, dead.getD j false = true → listed.getD j true = true) →
      (∀ j oj, ops[j]? = some oj → j ≠ i → listed.getD j true = false → (∀ e ∈ oj.after, Region.binds md e = true → e.on ≠ i) → oi.apart ops oj = true) →
      i ∈ Region.ready md ops listed → GivesG S P ops oi v a w →
      anyG S P md ops Q pre m n (listed.setIfInBounds i true) (a.put oi.dst v) w → anyG S P md ops Q pre m (n + 1) listed a w := by
  intro n
  induction n with
  | zero =>
    intro listed a w hdead _ hr hy H w' hx
    refine ⟨fun h => (by rw [h] at hr; cases hr), fun j hj => ?_⟩
    by_cases hji : j = i
    · subst hji; exact hy.wpOp hi (EOn.of_ext hx) fun w'' h'' => ⟨EOn.of_ext h'', anyG_ext (hx.trans h'') 0 _ _ H⟩
    · obtain ⟨hjun, oj, hoj, hall⟩ := mem_ready.1 hj
      exfalso
      by_cases hp : pre.getD j false = true
      · have := H.1 j hp
        rw [getD_set_ne true (Ne.symm hji), hjun] at this
        cases this
      · obtain ⟨e, he, hb, hon⟩ := htail j oj hoj (by simpa using hp) (dead_false hdead hjun) i hpre
        have g1 := hall e he hb
        have g0 := (mem_ready.1 hr).1
        rw [hon] at g1
        rcases Nat.lt_or_ge i listed.size with h' | h'
        · simp [h'] at g0 g1; rw [g0] at g1; cases g1
        · simp [Array.getElem?_eq_none h'] at g1
  | succ n ih =>
    intro listed a w hdead hfree hr hy H w' hx
    refine ⟨fun h => (by rw [h] at hr; cases hr), fun j hj => ?_⟩
    by_cases hji : j = i
    · subst hji; exact hy.wpOp hi (EOn.of_ext hx) fun w'' h'' => ⟨EOn.of_ext h'', anyG_ext (hx.trans h'') (n + 1) _ _ H⟩
    · have h1 := (H w' hx).2 j (ready_mono hj hji)
      obtain ⟨hjun, oj, hoj, hall⟩ := mem_ready.1 hj
      have hnot : ∀ e ∈ oj.after, Region.binds md e = true → e.on ≠ i := fun e he hb heq => by
        have g1 := hall e he hb
        have g0 := (mem_ready.1 hr).1
        rw [heq] at g1
        rcases Nat.lt_or_ge i listed.size with h' | h'
        · simp [h'] at g0 g1; rw [g0] at g1; cases g1
        · simp [Array.getElem?_eq_none h'] at g1
      have hap := hfree j oj hoj hji hjun hnot
      have h2 := wpOp_putIf (S := fun _ => False) hoj hap (fun cs b => hsel i oi cs b hi) (fun cs b => hsel j oj cs b hoj) (fun c a w h => absurd h (hQ c _ w))
        (by
          rcases hy with ⟨g1, _⟩ | ⟨g1, g2⟩
          · exact .inl ⟨g1, fun _ hf => hf.elim⟩
          · exact .inr ⟨g1, g2⟩) h1
      have h3 := wpOp_sees (oi := oi) hoj (Oper.apart_spec hap).2.2 (fun cs b => hsel i oi cs b hi) h2
      refine wpOp_mono (fun a' w'' h4 => ?_) h3
      obtain ⟨⟨e1, e2⟩, _, hx2, hK⟩ := h4
      refine ⟨hx2, ih (listed.setIfInBounds j true) a' w'' (dead_set hdead j) (fun k ok hk hki hun hno => ?_) (ready_mono hr (Ne.symm hji)) ((hy.same e1 e2).ext ((EOn.of_ext hx).trans hx2)) (by rw [Array.setIfInBounds_comm _ _ hji]; exact hK)⟩
      refine hfree k ok hk hki ?_ hno
      by_cases hjk : j = k
      · subst hjk; exact hjun
      · rw [getD_set_ne true hjk] at hun; exact hun

theorem anyD_plan (hs : Region.noSelect ops = true) (ht : tailD md ops pre dead = true) : ∀ (bs : List Bool) (l : List Nat) (listed : Array Bool) (a : Act) (w : World), (∀ j, dead.getD j false = true → listed.getD j true = true) → planB md ops pre bs l listed = true → preB pre bs l listed = true → m + bs.length = l.length →
    wpG S P ops Q bs (l.map fun i => ops.getD i default) a w → anyG S P md ops (gQ Q) pre m bs.length listed a w
  | [], l, listed, a, w, hdead, hB, hp, hl, h => by
    refine ⟨fun j hj => ?_, fun w' hx => ?_⟩
    · have hp' : ((List.range pre.size).all fun j => !pre.getD j false || listed.getD j true) = true := by cases l <;> exact hp
      have hlt : j < pre.size := by
        rcases Nat.lt_or_ge j pre.size with g | g
        · exact g
        · simp [Array.getElem?_eq_none g] at hj
      have := List.all_eq_true.1 hp' j (List.mem_range.2 hlt)
      rw [hj] at this
      simpa using this
    · have h' : wpList P ops (gQ Q) (l.map fun i => ops.getD i default) a w' := by cases l <;> exact h w' hx
      have := wpAny_tail l listed a w' hB h'
      simp only [List.length_nil, Nat.add_zero] at hl
      rw [hl]; exact this
  | true :: bs, i :: rest, listed, a, w, hdead, hB, hp, hl, h => by
    simp only [planB, Bool.and_eq_true] at hB
    obtain ⟨⟨⟨⟨hi, hpi⟩, hr⟩, hf⟩, hB'⟩ := hB
    obtain ⟨o, ho⟩ := Option.isSome_iff_exists.1 hi
    obtain ⟨v, hy, hK⟩ := h
    have e : ops.getD i default = o := by simp [ho]
    simp only [e] at hy hK
    exact anyD_first ho (Region.noSelect_spec hs) (fun c a w h => h) hpi (tailD_spec ht) bs.length listed a w hdead (Region.free_spec ho hf) (by simpa using hr) hy (anyD_plan hs ht bs rest _ _ _ (dead_set hdead _) hB' hp (by simp at hl; omega) hK)
  | false :: bs, i :: rest, listed, a, w, hdead, hB, hp, hl, h => by
    simp only [planB, Bool.and_eq_true, beq_iff_eq] at hB
    obtain ⟨⟨hi, hr⟩, hB'⟩ := hB
    obtain ⟨o, ho⟩ := Option.isSome_iff_exists.1 hi
    have e : ops.getD i default = o := by simp [ho]
    intro w' hx
    refine ⟨fun he => (by rw [hr] at he; cases he), fun j hj => ?_⟩
    rw [hr] at hj
    obtain rfl : j = i := by simpa using hj
    obtain ⟨h1, h2⟩ := h w' hx
    simp only [e] at h1 h2
    unfold wpOp
    simp only [ho, h1, if_true]
    exact .inl (Oper.wp_mono (fun a' w'' h' => ⟨h'.1, anyD_plan hs ht bs rest _ _ _ (dead_set hdead _) hB' hp (by simp at hl; omega) h'.2⟩) h2)
  | true :: _, [], _, _, _, _, hB, _, _, _ => by simp [planB] at hB
  | false :: _, [], _, _, _, _, hB, _, _, _ => by simp [planB] at hB


/-- An operation that only reckons: one value, whatever the world. -/
def Reck (P : Program) (ops : Array Oper) (o : Oper) (v : Value) (a : Act) : Prop := Region.wanted o (yielded ops a.tmps) = true ∧ ∀ w, (execOp a.eval o).run P w = .ok (.value v) w
theorem reck_wpOp {i : Nat} {o : Oper} {v : Value} {a : Act} {w : World} (hi : ops[i]? = some o) (h : Reck P ops o v a) {K : Act → World → Prop} (hK : K (a.put o.dst v) w) : wpOp P ops Q i K a w := by
  unfold Go.wpOp
  simp only [hi, h.1, if_true]
  refine .inl ?_
  unfold Oper.wp
  rw [h.2 w]
  exact hK
theorem wpAny_first {i : Nat} {oi : Oper} {v : Value} (hi : ops[i]? = some oi) (hsel : ∀ (j : Nat) (o : Oper) cs b, ops[j]? = some o → o.op ≠ .select cs b) (hQ : ∀ c a w, ¬ Q (.panic c) a w) :
    ∀ (n : Nat) (listed : Array Bool) (a : Act) (w : World),
      (∀ j oj, ops[j]? = some oj → j ≠ i → listed.getD j true = false → (∀ e ∈ oj.after, Region.binds md e = true → e.on ≠ i) → oi.apart ops oj = true) →
      i ∈ Region.ready md ops listed → Reck P ops oi v a →
      wpAny P md ops Q n (listed.setIfInBounds i true) (a.put oi.dst v) w → wpAny P md ops Q (n + 1) listed a w := by
  have hnot : ∀ (listed : Array Bool) (j : Nat) (oj : Oper), i ∈ Region.ready md ops listed → j ≠ i → (∀ e ∈ oj.after, Region.binds md e = true → listed.getD e.on false = true) → ∀ e ∈ oj.after, Region.binds md e = true → e.on ≠ i := by
    intro listed j oj hr hji hall e he hb heq
    have g1 := hall e he hb
    have g0 := (mem_ready.1 hr).1
    rw [heq] at g1
    rcases Nat.lt_or_ge i listed.size with h' | h'
    · simp [h'] at g0 g1; rw [g0] at g1; cases g1
    · simp [Array.getElem?_eq_none h'] at g1
  intro n
  induction n with
  | zero =>
    intro listed a w _ hr hy H
    refine ⟨fun h => (by rw [h] at hr; cases hr), fun j hj => ?_⟩
    by_cases hji : j = i
    · subst hji; exact reck_wpOp hi hy H
    · exfalso
      have h1 := H.1
      have := ready_mono hj hji
      rw [h1] at this
      cases this
  | succ n ih =>
    intro listed a w hfree hr hy H
    refine ⟨fun h => (by rw [h] at hr; cases hr), fun j hj => ?_⟩
    by_cases hji : j = i
    · subst hji; exact reck_wpOp hi hy H
    · have h1 := H.2 j (ready_mono hj hji)
      obtain ⟨hjun, oj, hoj, hall⟩ := mem_ready.1 hj
      have hap := hfree j oj hoj hji hjun (hnot listed j oj hr hji hall)
      have h2 := wpOp_putIf (S := fun _ => False) hoj hap (fun cs b => hsel i oi cs b hi) (fun cs b => hsel j oj cs b hoj) (fun c a w h => absurd h (hQ c _ w)) (.inl ⟨hy.1, fun _ hf => hf.elim⟩) h1
      have h3 := wpOp_sees (oi := oi) hoj (Oper.apart_spec hap).2.2 (fun cs b => hsel i oi cs b hi) h2
      refine wpOp_mono (fun a' w'' h4 => ?_) h3
      obtain ⟨⟨e1, e2⟩, _, hK⟩ := h4
      refine ih (listed.setIfInBounds j true) a' w'' (fun k ok hk hki hun hno => ?_) (ready_mono hr (Ne.symm hji)) ⟨by rw [e2]; exact hy.1, fun w => by rw [e1]; exact hy.2 w⟩ (by rw [Array.setIfInBounds_comm _ _ hji]; exact hK)
      refine hfree k ok hk hki ?_ hno
      by_cases hjk : j = k
      · subst hjk; exact hjun
      · rw [getD_set_ne true hjk] at hun; exact hun
def wpP (P : Program) (ops : Array Oper) : List Oper → (Act → World → Prop) → Act → World → Prop
  | [], E, a, w => E a w
  | o :: rest, E, a, w => ∃ v, Reck P ops o v a ∧ wpP P ops rest E (a.put o.dst v) w
theorem wpP_mono {E E' : Act → World → Prop} (h : ∀ a w, E a w → E' a w) : ∀ (l : List Oper) (a : Act) (w : World), wpP P ops l E a w → wpP P ops l E' a w
  | [], a, w, hh => h a w hh
  | _ :: rest, _, w, ⟨v, h1, h2⟩ => ⟨v, h1, wpP_mono h rest _ w h2⟩
theorem wpAny_P (hs : Region.noSelect ops = true) (k : Nat) : ∀ (l : List Nat) (listed : Array Bool) (a : Act) (w : World), planT md ops pre l listed = true →
    wpP P ops (l.map fun i => ops.getD i default) (fun a w => wpAny P md ops (gQ Q) k (after l listed) a w) a w → wpAny P md ops (gQ Q) (k + l.length) listed a w
  | [], listed, a, w, _, h => h
  | i :: rest, listed, a, w, hB, h => by
    simp only [planT, Bool.and_eq_true] at hB
    obtain ⟨⟨⟨⟨hi, hpi⟩, hr⟩, hf⟩, hB'⟩ := hB
    obtain ⟨o, ho⟩ := Option.isSome_iff_exists.1 hi
    obtain ⟨v, hy, hK⟩ := h
    have e : ops.getD i default = o := by simp [ho]
    simp only [e] at hy hK
    exact wpAny_first ho (Region.noSelect_spec hs) (fun c a w h => h) (k + rest.length) listed a w (Region.free_spec ho hf) (by simpa using hr) hy (wpAny_P hs k rest _ _ _ hB' hK)
def checkC (l : List Oper) (oa ob : List Nat) (bs : List Bool) : Bool :=
  let ops := l.toArray; let L0 := Array.replicate l.length false; let L1 := after oa L0; let pre := preOf l.length bs ob
  Region.noSelect ops && (planT .any ops (Array.replicate l.length true) oa L0 && (planB .any ops pre bs ob L1 && (preB pre bs ob L1 && (tailD .any ops pre L1 && (decide (bs.length ≤ ob.length) && (oa.length + ob.length == l.length && L1.size == l.length))))))
theorem getD_two {L : Array Bool} {n : Nat} (hn : L.size = n) (j : Nat) (h : L.getD j false = true) : L.getD j true = true := by
  rcases Nat.lt_or_ge j L.size with g | g
  · simp [g] at h ⊢; exact h
  · simp [Array.getElem?_eq_none g] at h
/-- **What only reckons first, then what reads, then the rest.** -/
theorem wp_reck (S : Addr → Prop) {id : Nat} {a : Act} {w : World} {l : List Oper} (oa ob : List Nat) (bs : List Bool) (hm : P.follows .mixedOrders = true) (hB : checkC l oa ob bs = true)
    {la lb : List Oper} (hla : oa.map (nth l) = la) (hlb : ob.map (nth l) = lb)
    (h : ∀ w', Ext w w' → wpP P l.toArray la (fun a w => wpG S P l.toArray Q bs lb a w) a w') : (Code.region id l.toArray true).wp P Q a w := by
  subst hla hlb
  simp only [checkC, Bool.and_eq_true, beq_iff_eq, decide_eq_true_eq] at hB
  obtain ⟨hs, h1, h2, h3, h4, h5, h6, h7⟩ := hB
  have emap : ∀ o : List Nat, o.map (nth l) = o.map fun i => l.toArray.getD i default := fun o => List.map_congr_left fun i _ => (nth_eq l i).symm
  refine wp_mono (wp_region_any hm ?_) (Q := gQ Q) (fun e a w hq => by cases e <;> first | exact hq | exact hq.elim)
  have key := wpAny_P (P := P) (Q := Q) (md := .any) hs ob.length oa (Array.replicate l.length false) a w.drew h1 ?_
  · rw [show ob.length + oa.length = l.length from by omega] at key
    simpa using key
  · have hh := h w.drew (Ext.drew (Ext.refl w))
    rw [← emap]
    refine wpP_mono (fun a w hh => ?_) _ a _ hh
    rw [emap] at hh
    have := anyD_plan (S := S) (m := ob.length - bs.length) (md := .any) hs h4 bs ob _ a w (fun j hj => getD_two h7 j hj) h2 h3 (by omega) hh
    have := wpAny_of_anyG _ _ _ _ this
    rw [show bs.length + (ob.length - bs.length) = ob.length from by omega] at this
    exact this
section
variable {a a' : Act} {w : World} {dst : Option Tmp} {op : Op} {ty : TypeId} {pos : String} {after : Array Edge} {g : Option (Nat × Bool)} {rest : List Oper} {v : Value} {E : Act → World → Prop}
theorem wpP_val (hg : Region.wanted ⟨dst, op, ty, pos, after, g⟩ (yielded ops a.tmps) = true)
    (hr : ∀ w', (execOp a.eval ⟨dst, op, ty, pos, after, g⟩).run P w' = .ok (.value v) w') (ha : a.put dst v = a')
    (h : wpP P ops rest E a' w) : wpP P ops (⟨dst, op, ty, pos, after, g⟩ :: rest) E a w :=
  ⟨v, ⟨hg, hr⟩, by rw [show (Oper.mk dst op ty pos after g).dst = dst from rfl, ha]; exact h⟩
theorem wpP_move {x : Operand} (hg : Region.wanted ⟨dst, .move x, ty, pos, after, g⟩ (yielded ops a.tmps) = true)
    (hv : a.eval x = v) (ha : a.put dst v = a') (h : wpP P ops rest E a' w) : wpP P ops (⟨dst, .move x, ty, pos, after, g⟩ :: rest) E a w :=
  wpP_val hg (fun _ => by subst hv; rfl) ha h
theorem wpP_end (h : E a w) : wpP P ops [] E a w := h
end
end
end Go.Proofs.YteokfknkcbmigaaDoor
