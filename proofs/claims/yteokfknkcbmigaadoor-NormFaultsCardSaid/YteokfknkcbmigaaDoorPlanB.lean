/-
  A statement whose order is open, with two operations that may come in either order.
-/
import Derived.Test.YteokfknkcbmigaaDoorPlan
namespace Go.Proofs.YteokfknkcbmigaaDoor
open Go.RowKit

section
variable {S : Addr → Prop} {P : Program} {ops : Array Oper} {md : Region.Mode} {Q : Exit → Act → World → Prop} {pre : Array Bool} {m : Nat}

/-- Operations that give one value, one behind the other; then E. -/
def wpT (S : Addr → Prop) (P : Program) (ops : Array Oper) : List Oper → (Act → World → Prop) → Act → World → Prop
  | [], E, a, w => E a w
  | o :: rest, E, a, w => ∃ v, GivesG S P ops o v a w ∧ wpT S P ops rest E (a.put o.dst v) w
def planT (md : Region.Mode) (ops : Array Oper) (pre : Array Bool) : List Nat → Array Bool → Bool
  | i :: rest, listed => (ops[i]?).isSome && pre.getD i false && (Region.ready md ops listed).contains i && Region.free md ops listed i && planT md ops pre rest (listed.setIfInBounds i true)
  | [], _ => true
def after (l : List Nat) (listed : Array Bool) : Array Bool := l.foldl (fun p i => p.setIfInBounds i true) listed
theorem wpT_mono {E E' : Act → World → Prop} (h : ∀ a w, E a w → E' a w) : ∀ (l : List Oper) (a : Act) (w : World), wpT S P ops l E a w → wpT S P ops l E' a w
  | [], a, w, hh => h a w hh
  | _ :: rest, _, w, ⟨v, h1, h2⟩ => ⟨v, h1, wpT_mono h rest _ w h2⟩
theorem anyG_T (hs : Region.noSelect ops = true) (ht : tailB md ops pre = true) (k : Nat) : ∀ (l : List Nat) (listed : Array Bool) (a : Act) (w : World), planT md ops pre l listed = true →
    wpT S P ops (l.map fun i => ops.getD i default) (fun a w => anyG S P md ops (gQ Q) pre m k (after l listed) a w) a w → anyG S P md ops (gQ Q) pre m (k + l.length) listed a w
  | [], listed, a, w, _, h => h
  | i :: rest, listed, a, w, hB, h => by
    simp only [planT, Bool.and_eq_true] at hB
    obtain ⟨⟨⟨⟨hi, hpi⟩, hr⟩, hf⟩, hB'⟩ := hB
    obtain ⟨o, ho⟩ := Option.isSome_iff_exists.1 hi
    obtain ⟨v, hy, hK⟩ := h
    have e : ops.getD i default = o := by simp [ho]
    simp only [e] at hy hK
    exact anyG_first ho (Region.noSelect_spec hs) (fun c a w h => h) hpi (tailB_spec ht) (k + rest.length) listed a w (Region.free_spec ho hf) (by simpa using hr) hy (anyG_T hs ht k rest _ _ _ hB' hK)
/-- An operation that stands alone, or beside another one. -/
def stepF (S : Addr → Prop) (P : Program) (ops : Array Oper) (Q : Exit → Act → World → Prop) (o : Oper) (K : Act → World → Prop) (a : Act) (w : World) : Prop :=
  ∀ w', Ext w w' → Region.wanted o (yielded ops a.tmps) = true ∧ o.wp P a w' (fun a' w'' => EOn S w' w'' ∧ K a' w'') (gQ Q)
theorem stepF_do {o : Oper} {K : Act → World → Prop} {a : Act} {w : World} (hg : Region.wanted o (yielded ops a.tmps) = true)
    (h : ∀ w', Ext w w' → ∀ K' : Act → World → Prop, (∀ a' w'', (EOn S w' w'' ∧ K a' w'') → K' a' w'') → o.wp P a w' K' (gQ Q)) : stepF S P ops Q o K a w :=
  fun w' hx => ⟨hg, h w' hx _ fun _ _ h1 => h1⟩
theorem anyG_two {i j n : Nat} {listed : Array Bool} {a : Act} {w : World} (hr : Region.ready md ops listed = [i, j]) {oi oj : Oper} (hi : ops[i]? = some oi) (hj : ops[j]? = some oj)
    (h1 : stepF S P ops Q oi (fun a' w'' => anyG S P md ops (gQ Q) pre m n (listed.setIfInBounds i true) a' w'') a w) (h2 : stepF S P ops Q oj (fun a' w'' => anyG S P md ops (gQ Q) pre m n (listed.setIfInBounds j true) a' w'') a w) :
    anyG S P md ops (gQ Q) pre m (n + 1) listed a w := by
  intro w' hx
  refine ⟨by rw [hr]; simp, fun k hk => ?_⟩
  rw [hr] at hk
  rcases List.mem_cons.1 hk with rfl | hk
  · obtain ⟨a1, a2⟩ := h1 w' hx
    unfold wpOp
    simp only [hi, a1, if_true]
    exact .inl a2
  · obtain rfl : k = j := by simpa using hk
    obtain ⟨a1, a2⟩ := h2 w' hx
    unfold wpOp
    simp only [hj, a1, if_true]
    exact .inl a2
def checkTwo (l : List Oper) (o1 : List Nat) (i j : Nat) (oa ob : List Nat) (ba bb : List Bool) : Bool :=
  let ops := l.toArray; let pre := Array.replicate l.length true; let L0 := Array.replicate l.length false; let L1 := after o1 L0
  Region.noSelect ops && (planT .any ops pre o1 L0 && (Region.ready .any ops L1 == [i, j] && ((ops[i]?).isSome && ((ops[j]?).isSome && (planB .any ops pre ba oa (L1.setIfInBounds i true) && (planB .any ops pre bb ob (L1.setIfInBounds j true) &&
    (preB pre ba oa (L1.setIfInBounds i true) && (preB pre bb ob (L1.setIfInBounds j true) && (ba.length == oa.length && (bb.length == ob.length && (o1.length + 1 + oa.length == l.length && (o1.length + 1 + ob.length == l.length && tailB .any ops pre))))))))))))
/-- **A statement with two operations in either order.** -/
theorem wp_two (S : Addr → Prop) {id : Nat} {a : Act} {w : World} {l : List Oper} (o1 : List Nat) (i j : Nat) (oa ob : List Nat) (ba bb : List Bool) (hm : P.follows .mixedOrders = true) (hB : checkTwo l o1 i j oa ob ba bb = true)
    {l1 la lb : List Oper} {oi oj : Oper} (hl1 : o1.map (nth l) = l1) (hla : oa.map (nth l) = la) (hlb : ob.map (nth l) = lb) (hoi : nth l i = oi) (hoj : nth l j = oj)
    (h : wpT S P l.toArray l1 (fun a w => stepF S P l.toArray Q oi (wpG S P l.toArray Q ba la) a w ∧ stepF S P l.toArray Q oj (wpG S P l.toArray Q bb lb) a w) a w) : (Code.region id l.toArray true).wp P Q a w := by
  subst hl1 hla hlb hoi hoj
  simp only [checkTwo, Bool.and_eq_true, beq_iff_eq] at hB
  obtain ⟨hs, h1, hr, hi, hj, hpa, hpb, hqa, hqb, hea, heb, hna, hnb, ht⟩ := hB
  obtain ⟨oi, hoi⟩ := Option.isSome_iff_exists.1 hi
  obtain ⟨oj, hoj⟩ := Option.isSome_iff_exists.1 hj
  have ei : nth l i = oi := by rw [← nth_eq, Array.getD_eq_getD_getElem?, hoi]; rfl
  have ej : nth l j = oj := by rw [← nth_eq, Array.getD_eq_getD_getElem?, hoj]; rfl
  have emap : ∀ o : List Nat, o.map (nth l) = o.map fun i => l.toArray.getD i default := fun o => List.map_congr_left fun i _ => (nth_eq l i).symm
  refine wp_mono (wp_region_any hm ?_) (Q := gQ Q) (fun e a w hq => by cases e <;> first | exact hq | exact hq.elim)
  have key : anyG S P .any l.toArray (gQ Q) (Array.replicate l.length true) 0 ((oa.length + 1) + o1.length) (Array.replicate l.length false) a w := by
    refine anyG_T hs ht (oa.length + 1) o1 _ a w h1 ?_
    rw [← emap]
    refine wpT_mono (fun a w hh => ?_) _ a w h
    obtain ⟨ha, hb⟩ := hh
    rw [ei] at ha
    rw [ej] at hb
    refine anyG_two hr hoi hoj ?_ ?_
    · intro w' hx
      obtain ⟨g1, g2⟩ := ha w' hx
      refine ⟨g1, Oper.wp_mono (fun a' w'' h' => ⟨h'.1, ?_⟩) g2⟩
      have h2 := h'.2
      rw [emap] at h2
      have := anyG_plan (m := 0) (md := .any) hs ht ba oa _ a' w'' hpa hqa (by omega) h2
      rw [hea] at this
      exact this
    · intro w' hx
      obtain ⟨g1, g2⟩ := hb w' hx
      refine ⟨g1, Oper.wp_mono (fun a' w'' h' => ⟨h'.1, ?_⟩) g2⟩
      have h2 := h'.2
      rw [emap] at h2
      have := anyG_plan (m := 0) (md := .any) hs ht bb ob _ a' w'' hpb hqb (by omega) h2
      rw [heb, show ob.length = oa.length from by omega] at this
      exact this
  have := wpAny_of_anyG _ _ _ _ (anyG_ext (Ext.drew (Ext.refl w)) _ _ _ key)
  rw [show oa.length + 1 + o1.length + 0 = l.length from by omega] at this
  simpa using this
section
variable {a a' : Act} {w : World} {dst : Option Tmp} {op : Op} {ty : TypeId} {pos : String} {after : Array Edge} {g : Option (Nat × Bool)} {rest : List Oper} {v : Value} {E : Act → World → Prop}
theorem wpT_val (hg : Region.wanted ⟨dst, op, ty, pos, after, g⟩ (yielded ops a.tmps) = true)
    (hr : ∀ w', EOn S w w' → (execOp a.eval ⟨dst, op, ty, pos, after, g⟩).run P w' = .ok (.value v) w') (ha : a.put dst v = a')
    (h : wpT S P ops rest E a' w) : wpT S P ops (⟨dst, op, ty, pos, after, g⟩ :: rest) E a w :=
  ⟨v, .inl ⟨hg, fun w' hx => by unfold Oper.quietAt; rw [hr w' hx]; exact ⟨rfl, rfl⟩⟩, by rw [show (Oper.mk dst op ty pos after g).dst = dst from rfl, ha]; exact h⟩
theorem wpT_move {x : Operand} (hg : Region.wanted ⟨dst, .move x, ty, pos, after, g⟩ (yielded ops a.tmps) = true)
    (hv : a.eval x = v) (ha : a.put dst v = a') (h : wpT S P ops rest E a' w) : wpT S P ops (⟨dst, .move x, ty, pos, after, g⟩ :: rest) E a w :=
  wpT_val hg (fun _ _ => by subst hv; rfl) ha h
theorem wpT_end (h : E a w) : wpT S P ops [] E a w := h
end
end
end Go.Proofs.YteokfknkcbmigaaDoor
