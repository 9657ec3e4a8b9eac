/-
  What a world keeps while it grows. A statement whose order is open, where the world only grows: whatever gives one value in every grown world may be taken first; the rest must stand alone. A statement whose order is open, with two operations that may come in either order. A statement whose order is open: what only reckons comes first, then what reads, then the rest, which stands alone. A statement whose order is open, in the body of a loop over an iterator. Maps that a call makes and writes: which entries they hold, in the order in which they were laid.
-/
import Derived.Test.YtlmkbldiicbejaaGreatDoorRows
import Derived.WalkKit
import Derived.WalkSpells
import Derived.WalkLawsBesides
import Derived.RangeFuncBox
import Derived.RangeFuncNested
import Derived.Test.YtlmkbldiicbejaaGreatDoorPlainM
import Derived.Deep.Quiet
import Derived.OrdersHeld
import Derived.RangeFuncCalls
import Derived.OrdersIn
import Derived.Maps.OwnOps
import Derived.DeepKeys4
section
namespace Go.Proofs.YtlmkbldiicbejaaGreatDoor
open Go.RowKit

/-- The world has grown: what was there is as it was. -/
def Ext (w w' : World) : Prop := Below w.heap.size w w'
theorem Ext.refl (w : World) : Ext w w := Below.refl _ _
theorem Ext.trans {a b c : World} (h : Ext a b) (k : Ext b c) : Ext a c := Below.trans h (Below.mono k h.size)
theorem Ext.alloc {a w : World} (h : Ext a w) (o : Obj) : Ext a (w.alloc o) := Below.alloc h h.size o
theorem Ext.iter {a w : World} (h : Ext a w) (s : ByteArray) (p : Nat) : Ext a (w.iter s p) := Ext.alloc h _
theorem Ext.drew {a w : World} (h : Ext a w) : Ext a w.drew := Below.drew h
theorem Ext.setCell {a w : World} (h : Ext a w) {p : Addr} (hp : a.heap.size ≤ p.block) (u : Value) : Ext a (w.setCell p u) := Below.setCell h hp u
theorem Ext.sz {a w : World} (h : Ext a w) : a.heap.size ≤ w.heap.size := h.size
theorem Ext.blk {a w : World} (h : Ext a w) {b : Nat} {o : Obj} (hb : a.heap[b]? = some o) : w.heap[b]? = some o := by
  rw [h.block b (by rcases Nat.lt_or_ge b a.heap.size with g | g; exact g; simp [Array.getElem?_eq_none g] at hb)]; exact hb
theorem Ext.cell {a w : World} (h : Ext a w) {p : Addr} {v : Value} (hb : a.cell? p = some v) : w.cell? p = some v := by
  rw [Below.cell h (World.block_lt_of_cell? _ _ hb)]; exact hb
theorem Ext.below {a w : World} (h : Ext a w) : Below a.heap.size a w := h
theorem Ext.of {a w : World} (h : Below a.heap.size a w) : Ext a w := h
theorem blk_lt {w : World} {b : Nat} {o : Obj} (hb : w.heap[b]? = some o) : b < w.heap.size := by
  rcases Nat.lt_or_ge b w.heap.size with g | g
  · exact g
  · simp [Array.getElem?_eq_none g] at hb
theorem cell_blk {w : World} {b : Nat} {c : Array Value} {t : TypeId} {f : Nat × Nat} (h : w.heap[b]? = some (.cells c t f)) (i : Nat) : w.cell? ⟨b, i, none⟩ = c[i]? := by
  simp [World.cell?, h]
theorem alloc_blk (w : World) (o : Obj) : (w.alloc o).heap[w.heap.size]? = some o := by
  show (w.heap.push o)[w.heap.size]? = _
  simp
theorem set_blk {w : World} {b : Nat} {c : Array Value} {t : TypeId} {f : Nat × Nat} (h : w.heap[b]? = some (.cells c t f)) (i : Nat) (v : Value) :
    (w.setCell ⟨b, i, none⟩ v).heap[b]? = some (.cells (c.setIfInBounds i v) t f) := by
  show (w.heap.modify b _)[b]? = _
  rw [Array.getElem?_modify, if_pos rfl, h]
  rfl
theorem frz_blk {w : World} {b : Nat} {c : Array Value} {t : TypeId} (h : w.heap[b]? = some (.cells c t (0, 0))) (i : Nat) : w.frozen? ⟨b, i, none⟩ = false := by
  simp [World.frozen?, h]
theorem ownsRow_ext {W W' : World} {base : Nat} {e : TypeId} {size : Nat} {v : Value} {n : Nat} {xs : List Value} (h : W.ownsRow base e size v n xs) (hx : Ext W W') : W'.ownsRow base e size v n xs := by
  obtain ⟨h1, h2⟩ := h
  refine ⟨h1, ?_⟩
  rcases h2 with h2 | ⟨g, cap, cur, rfl, a1, a2, a3⟩
  · exact .inl h2
  · exact .inr ⟨g, cap, cur, rfl, a1, hx.blk a2, a3⟩
theorem _root_.Go.Boxed.ext {W W' : World} {B : Nat} {t : TypeId} {v : Value} (h : Boxed W B t v) (hx : Ext W W') : Boxed W' B t v := Ext.blk hx h

/-- The world may have turned, but for these cells, and what is no cells in their blocks. -/
structure EOn (S : Addr → Prop) (W W' : World) : Prop where
  sz : W.heap.size ≤ W'.heap.size
  same : ∀ a, S a → a.block < W.heap.size → W'.cell? a = W.cell? a
  objs : ∀ m o, S ⟨m, 0, none⟩ → W.heap[m]? = some o → o.isCells = false → W'.heap[m]? = some o
theorem EOn.refl (S : Addr → Prop) (W : World) : EOn S W W := ⟨Nat.le_refl _, fun _ _ _ => rfl, fun _ _ _ h _ => h⟩
theorem EOn.trans {S : Addr → Prop} {A B C : World} (h : EOn S A B) (k : EOn S B C) : EOn S A C :=
  ⟨Nat.le_trans h.sz k.sz, fun a ha hb => (k.same a ha (Nat.lt_of_lt_of_le hb h.sz)).trans (h.same a ha hb), fun m o hm ho hc => k.objs m o hm (h.objs m o hm ho hc) hc⟩
theorem EOn.of_ext {S : Addr → Prop} {A B : World} (h : Ext A B) : EOn S A B := ⟨h.sz, fun _ _ hb => Below.cell h hb, fun _ _ _ ho _ => h.blk ho⟩
theorem EOn.cell {S : Addr → Prop} {A B : World} (h : EOn S A B) {a : Addr} {v : Value} (ha : S a) (hc : A.cell? a = some v) : B.cell? a = some v :=
  (h.same a ha (World.block_lt_of_cell? _ _ hc)).trans hc
/-- One block alone has turned. -/
theorem EOn.of_grown {S : Addr → Prop} {A B : World} {row : Option Nat} (hg : A.grownBy B row) (hS : ∀ a, S a → a.block < A.heap.size → some a.block ≠ row) : EOn S A B :=
  ⟨hg.size, fun a ha hb => World.cell?_of_block (hg.block a.block hb (hS a ha hb)), fun m _ hm ho _ => (hg.block m (blk_lt ho) (hS ⟨m, 0, none⟩ hm (blk_lt ho))).trans ho⟩
end Go.Proofs.YtlmkbldiicbejaaGreatDoor
end

section
namespace Go.Proofs.YtlmkbldiicbejaaGreatDoor
open Go.RowKit

section
variable {S : Addr → Prop} {P : Program} {ops : Array Oper} {md : Region.Mode}

/-- What stands behind the statement; no panic. -/
def gQ (Q : Exit → Act → World → Prop) : Exit → Act → World → Prop
  | .panic _, _, _ => False
  | e, a, w => Q e a w

theorem gQ_normal {Q : Exit → Act → World → Prop} {a : Act} {w : World} (h : Q .normal a w) : gQ Q .normal a w := h
/-- The world forgotten, but for what is said of it. -/
theorem gQ_gen {Q : Exit → Act → World → Prop} {a : Act} {w : World} (C : World → Prop) (h1 : C w) (h : ∀ w', C w' → Q .normal a w') : gQ Q .normal a w := h w h1
theorem Q_gen {Q : Exit → Act → World → Prop} {e : Exit} {a : Act} {w : World} (C : World → Prop) (h1 : C w) (h : ∀ w', C w' → Q e a w') : Q e a w := h w h1
theorem wp_gen {c : Code} {Q : Exit → Act → World → Prop} {a : Act} {w : World} (C : World → Prop) (h1 : C w) (h : ∀ w', C w' → c.wp P Q a w') : c.wp P Q a w := h w h1
/-- Whatever order is picked for the first operations ('pre'); behind them the others ('m'). -/
def anyG (S : Addr → Prop) (P : Program) (md : Region.Mode) (ops : Array Oper) (Q : Exit → Act → World → Prop) (pre : Array Bool) (m : Nat) : Nat → Array Bool → Act → World → Prop
  | 0, listed, a, w => (∀ j, pre.getD j false = true → listed.getD j true = true) ∧ ∀ w', Ext w w' → wpAny P md ops Q m listed a w'
  | n + 1, listed, a, w => ∀ w', Ext w w' → Region.ready md ops listed ≠ [] ∧
      ∀ i ∈ Region.ready md ops listed, wpOp P ops Q i (fun a' w'' => EOn S w' w'' ∧ anyG S P md ops Q pre m n (listed.setIfInBounds i true) a' w'') a w'

variable {Q : Exit → Act → World → Prop} {pre : Array Bool} {m : Nat}

theorem anyG_ext {w w2 : World} (hx : Ext w w2) (n : Nat) (l : Array Bool) (a : Act) (h : anyG S P md ops Q pre m n l a w) : anyG S P md ops Q pre m n l a w2 := by
  cases n with
  | zero => exact ⟨h.1, fun w' h' => h.2 w' (hx.trans h')⟩
  | succ n => exact fun w' h' => h w' (hx.trans h')

theorem wpAny_of_anyG (n : Nat) : ∀ (l : Array Bool) (a : Act) (w : World), anyG S P md ops Q pre m n l a w → wpAny P md ops Q (n + m) l a w := by
  induction n with
  | zero => exact fun l a w h => by rw [Nat.zero_add]; exact h.2 w (Ext.refl w)
  | succ n ih =>
    intro l a w h
    rw [show n + 1 + m = n + m + 1 from by omega]
    obtain ⟨h1, h2⟩ := h w (Ext.refl w)
    exact ⟨fun he => absurd he h1, fun i hi => wpOp_mono (fun a' w' h' => ih _ a' w' h'.2) (h2 i hi)⟩

/-- In every grown world the operation gives this value. -/
def GivesG (S : Addr → Prop) (P : Program) (ops : Array Oper) (o : Oper) (v : Value) (a : Act) (w : World) : Prop :=
  (Region.wanted o (yielded ops a.tmps) = true ∧ ∀ w', EOn S w w' → o.quietAt P a (Ext w') w' v) ∨ (Region.wanted o (yielded ops a.tmps) = false ∧ v = undef)

theorem GivesG.ext {o : Oper} {v : Value} {a : Act} {w w2 : World} (hx : EOn S w w2) (h : GivesG S P ops o v a w) : GivesG S P ops o v a w2 :=
  h.imp (fun ⟨h1, h2⟩ => ⟨h1, fun w' h' => h2 w' (hx.trans h')⟩) id

theorem GivesG.same {o : Oper} {v : Value} {a a' : Act} {w : World} (h : GivesG S P ops o v a w) (he : execOp a'.eval o = execOp a.eval o)
    (hw : Region.wanted o (yielded ops a'.tmps) = Region.wanted o (yielded ops a.tmps)) : GivesG S P ops o v a' w := by
  unfold GivesG Oper.quietAt at *
  rw [he, hw]
  exact h

theorem GivesG.wpOp {i : Nat} {o : Oper} {v : Value} {a : Act} {w w' : World} {Q : Exit → Act → World → Prop} (hi : ops[i]? = some o) (h : GivesG S P ops o v a w) (hx : EOn S w w') {K : Act → World → Prop}
    (hK : ∀ w'', Ext w' w'' → K (a.put o.dst v) w'') : wpOp P ops Q i K a w' := by
  unfold Go.wpOp
  simp only [hi]
  rcases h with ⟨h1, h2⟩ | ⟨h1, rfl⟩
  · simp only [h1, if_true]
    refine .inl ?_
    have h3 := h2 w' hx
    unfold Oper.quietAt at h3
    unfold Oper.wp
    generalize (execOp a.eval o).run P w' = r at *
    cases r with
    | ok n w1 =>
      cases n <;> simp only [Oper.quietUpon] at h3 <;> simp only [Oper.upon]
      case value u => obtain ⟨e1, e2⟩ := h3; rw [e1, e2]; exact hK w' (Ext.refl _)
      case skip => obtain ⟨e1, e2⟩ := h3; rw [e1, ← e2]; exact hK w' (Ext.refl _)
      case enter f args =>
        obtain ⟨e1, hc⟩ := h3
        rw [e1]
        exact hc.mono fun e w'' ⟨he, hw⟩ => by subst he; exact hK w'' hw
    | halt x w1 => simp only [Oper.quietUpon] at h3
  · simp only [h1, Bool.false_eq_true, if_false]; exact hK w' (Ext.refl _)

/-- What one operation leaves alone, another one does not see. -/
theorem wpOp_sees {j : Nat} {oi oj : Oper} (hj : ops[j]? = some oj) (h3 : ∀ d, oj.dst = some d → d ∉ oi.looksAt ops) (hsi : ∀ cs b, oi.op ≠ .select cs b)
    {Q : Exit → Act → World → Prop} {K : Act → World → Prop} {a : Act} {w : World} (h : wpOp P ops Q j K a w) :
    wpOp P ops Q j (fun a' w' => (execOp a'.eval oi = execOp a.eval oi ∧ Region.wanted oi (yielded ops a'.tmps) = Region.wanted oi (yielded ops a.tmps)) ∧ K a' w') a w := by
  have keep : ∀ (a : Act) (u : Value), execOp (a.put oj.dst u).eval oi = execOp a.eval oi ∧ Region.wanted oi (yielded ops (a.put oj.dst u).tmps) = Region.wanted oi (yielded ops a.tmps) :=
    fun a u => ⟨execOp_put oi hsi a oj.dst u h3, wanted_put oi a oj.dst u h3⟩
  unfold Go.wpOp at *
  simp only [hj] at *
  by_cases hw : Region.wanted oj (yielded ops a.tmps) = true
  · simp only [hw, if_true] at *
    rcases h with h | h
    case inr => exact .inr h
    refine .inl ?_
    unfold Oper.wp at *
    generalize (execOp a.eval oj).run P w = r at *
    cases r with
    | ok n w' =>
      cases n <;> simp only [Oper.upon] at h ⊢
      case value u => exact ⟨keep a u, h⟩
      case skip => exact ⟨keep a _, h⟩
      case defer d => exact ⟨keep { a with defers := d :: a.defers } _, h⟩
      case enter f args =>
        refine h.mono fun e w'' he => ?_
        cases e with
        | returned u => exact ⟨keep a u, he⟩
        | panicked c => exact he
        | outgrown => exact he
      case row row args => exact h.mono fun u w'' he => ⟨keep a u, he⟩
    | halt x w' => cases x <;> simp only [Oper.upon] at h ⊢; exact h
  · simp only [hw] at *
    exact ⟨keep a _, h⟩

theorem anyG_first {i : Nat} {oi : Oper} {v : Value} (hi : ops[i]? = some oi) (hsel : ∀ (j : Nat) (o : Oper) cs b, ops[j]? = some o → o.op ≠ .select cs b)
    (hQ : ∀ c a w, ¬ Q (.panic c) a w) (hpre : pre.getD i false = true)
    (htail : ∀ j oj, ops[j]? = some oj → pre.getD j false = false → ∀ p, pre.getD p false = true → ∃ e ∈ oj.after, Region.binds md e = true ∧ e.on = p) :
    ∀ (n : Nat) (listed : Array Bool) (a : Act) (w : World),
      (∀ j oj, ops[j]? = some oj → j ≠ i → listed.getD j true = false → (∀ e ∈ oj.after, Region.binds md e = true → e.on ≠ i) → oi.apart ops oj = true) →
      i ∈ Region.ready md ops listed → GivesG S P ops oi v a w →
      anyG S P md ops Q pre m n (listed.setIfInBounds i true) (a.put oi.dst v) w → anyG S P md ops Q pre m (n + 1) listed a w := by
  intro n
  induction n with
  | zero =>
    intro listed a w _ hr hy H w' hx
    refine ⟨fun h => (by rw [h] at hr; cases hr), fun j hj => ?_⟩
    by_cases hji : j = i
    · subst hji; exact hy.wpOp hi (EOn.of_ext hx) fun w'' h'' => ⟨EOn.of_ext h'', anyG_ext (hx.trans h'') 0 _ _ H⟩
    · obtain ⟨hjun, oj, hoj, hall⟩ := mem_ready.1 hj
      exfalso
      by_cases hp : pre.getD j false = true
      · have := H.1 j hp
        rw [getD_set_ne true (Ne.symm hji), hjun] at this
        cases this
      · obtain ⟨e, he, hb, hon⟩ := htail j oj hoj (by simpa using hp) i hpre
        have g1 := hall e he hb
        have g0 := (mem_ready.1 hr).1
        rw [hon] at g1
        rcases Nat.lt_or_ge i listed.size with h' | h'
        · simp [h'] at g0 g1; rw [g0] at g1; cases g1
        · simp [Array.getElem?_eq_none h'] at g1
  | succ n ih =>
    intro listed a w hfree hr hy H w' hx
    refine ⟨fun h => (by rw [h] at hr; cases hr), fun j hj => ?_⟩
    by_cases hji : j = i
    · subst hji; exact hy.wpOp hi (EOn.of_ext hx) fun w'' h'' => ⟨EOn.of_ext h'', anyG_ext (hx.trans h'') (n + 1) _ _ H⟩
    · have h1 := (H w' hx).2 j (ready_mono hj hji)
      obtain ⟨hjun, oj, hoj, hall⟩ := mem_ready.1 hj
      have hnot : ∀ e ∈ oj.after, Region.binds md e = true → e.on ≠ i := fun e he hb heq => by
        have g1 := hall e he hb
        have g0 := (mem_ready.1 hr).1
        rw [heq] at g1
        rcases Nat.lt_or_ge i listed.size with h' | h'
        · simp [h'] at g0 g1; rw [g0] at g1; cases g1
        · simp [Array.getElem?_eq_none h'] at g1
      have hap := hfree j oj hoj hji hjun hnot
      have h2 := wpOp_putIf (S := fun _ => False) hoj hap (fun cs b => hsel i oi cs b hi) (fun cs b => hsel j oj cs b hoj) (fun c a w h => absurd h (hQ c _ w))
        (by
          rcases hy with ⟨g1, _⟩ | ⟨g1, g2⟩
          · exact .inl ⟨g1, fun _ hf => hf.elim⟩
          · exact .inr ⟨g1, g2⟩) h1
      have h3 := wpOp_sees (oi := oi) hoj (Oper.apart_spec hap).2.2 (fun cs b => hsel i oi cs b hi) h2
      refine wpOp_mono (fun a' w'' h4 => ?_) h3
      obtain ⟨⟨e1, e2⟩, _, hx2, hK⟩ := h4
      refine ⟨hx2, ih (listed.setIfInBounds j true) a' w'' (fun k ok hk hki hun hno => ?_) (ready_mono hr (Ne.symm hji)) ((hy.same e1 e2).ext ((EOn.of_ext hx).trans hx2)) (by rw [Array.setIfInBounds_comm _ _ hji]; exact hK)⟩
      refine hfree k ok hk hki ?_ hno
      by_cases hjk : j = k
      · subst hjk; exact hjun
      · rw [getD_set_ne true hjk] at hun; exact hun

/-- The walk in a chosen order: 'true': the operation gives one value in every grown world; 'false': it stands alone; behind these: the end. -/
def wpG (S : Addr → Prop) (P : Program) (ops : Array Oper) (Q : Exit → Act → World → Prop) : List Bool → List Oper → Act → World → Prop
  | true :: bs, o :: rest, a, w => ∃ v, GivesG S P ops o v a w ∧ wpG S P ops Q bs rest (a.put o.dst v) w
  | false :: bs, o :: rest, a, w => ∀ w', Ext w w' → Region.wanted o (yielded ops a.tmps) = true ∧ o.wp P a w' (fun a' w'' => EOn S w' w'' ∧ wpG S P ops Q bs rest a' w'') (gQ Q)
  | _, rest, a, w => ∀ w', Ext w w' → wpList P ops (gQ Q) rest a w'

def planB (md : Region.Mode) (ops : Array Oper) (pre : Array Bool) : List Bool → List Nat → Array Bool → Bool
  | true :: bs, i :: rest, listed => (ops[i]?).isSome && pre.getD i false && (Region.ready md ops listed).contains i && Region.free md ops listed i && planB md ops pre bs rest (listed.setIfInBounds i true)
  | false :: bs, i :: rest, listed => (ops[i]?).isSome && Region.ready md ops listed == [i] && planB md ops pre bs rest (listed.setIfInBounds i true)
  | [], i :: rest, listed => (ops[i]?).isSome && Region.ready md ops listed == [i] && planB md ops pre [] rest (listed.setIfInBounds i true)
  | [], [], listed => (Region.ready md ops listed).isEmpty
  | _, [], _ => false
/-- The first operations are all done when the last are come to. -/
def preB (pre : Array Bool) : List Bool → List Nat → Array Bool → Bool
  | _ :: bs, i :: rest, listed => preB pre bs rest (listed.setIfInBounds i true)
  | _, _, listed => (List.range pre.size).all fun j => !pre.getD j false || listed.getD j true
/-- The last operations wait for all the first. -/
def tailB (md : Region.Mode) (ops : Array Oper) (pre : Array Bool) : Bool :=
  (List.range ops.size).all fun j => pre.getD j false || (List.range pre.size).all fun p => !pre.getD p false || ((ops[j]?).map fun o => o.after.any fun e => Region.binds md e && e.on == p).getD true

theorem tailB_spec (h : tailB md ops pre = true) (j : Nat) (oj : Oper) (hj : ops[j]? = some oj) (hp : pre.getD j false = false) (p : Nat) (hpp : pre.getD p false = true) : ∃ e ∈ oj.after, Region.binds md e = true ∧ e.on = p := by
  simp only [tailB, List.all_eq_true, List.mem_range, Bool.or_eq_true] at h
  have h1 := (h j (Array.getElem?_eq_some_iff.1 hj).1).resolve_left (by simp [hp])
  have hlt : p < pre.size := by
    rcases Nat.lt_or_ge p pre.size with g | g
    · exact g
    · simp [Array.getElem?_eq_none g] at hpp
  have h2 := (h1 p hlt).resolve_left (by simp [hpp])
  simp only [hj, Option.map_some, Option.getD_some, Array.any_eq_true', Bool.and_eq_true, beq_iff_eq] at h2
  exact h2

theorem wpAny_tail : ∀ (l : List Nat) (listed : Array Bool) (a : Act) (w : World), planB md ops pre [] l listed = true → wpList P ops Q (l.map fun i => ops.getD i default) a w → wpAny P md ops Q l.length listed a w
  | [], listed, a, w, hB, h => ⟨by simpa [planB] using hB, h⟩
  | i :: rest, listed, a, w, hB, h => by
    simp only [planB, Bool.and_eq_true, beq_iff_eq] at hB
    obtain ⟨⟨hi, hr⟩, hB'⟩ := hB
    obtain ⟨o, ho⟩ := Option.isSome_iff_exists.1 hi
    have e : ops.getD i default = o := by simp [ho]
    refine ⟨fun he => (by rw [hr] at he; cases he), fun j hj => ?_⟩
    rw [hr] at hj
    obtain rfl : j = i := by simpa using hj
    simp only [List.map_cons, e] at h
    unfold wpOp
    unfold wpList at h
    simp only [ho]
    by_cases hw : Region.wanted o (yielded ops a.tmps) = true
    · simp only [hw, if_true] at h ⊢
      exact h.imp (fun h => Oper.wp_mono (fun a' w' h' => wpAny_tail rest _ a' w' hB' h') h) id
    · simp only [hw] at h ⊢
      exact wpAny_tail rest _ _ _ hB' h

theorem wp_gQ {o : Oper} {a : Act} {w : World} {K : Act → World → Prop} (h : o.wp P a w K (gQ Q)) : o.wp P a w K (gQ Q) := h

theorem anyG_plan (hs : Region.noSelect ops = true) (ht : tailB md ops pre = true) : ∀ (bs : List Bool) (l : List Nat) (listed : Array Bool) (a : Act) (w : World), planB md ops pre bs l listed = true → preB pre bs l listed = true → m + bs.length = l.length →
    wpG S P ops Q bs (l.map fun i => ops.getD i default) a w → anyG S P md ops (gQ Q) pre m bs.length listed a w
  | [], l, listed, a, w, hB, hp, hl, h => by
    refine ⟨fun j hj => ?_, fun w' hx => ?_⟩
    · have hp' : ((List.range pre.size).all fun j => !pre.getD j false || listed.getD j true) = true := by cases l <;> exact hp
      have hlt : j < pre.size := by
        rcases Nat.lt_or_ge j pre.size with g | g
        · exact g
        · simp [Array.getElem?_eq_none g] at hj
      have := List.all_eq_true.1 hp' j (List.mem_range.2 hlt)
      rw [hj] at this
      simpa using this
    · have h' : wpList P ops (gQ Q) (l.map fun i => ops.getD i default) a w' := by cases l <;> exact h w' hx
      have := wpAny_tail l listed a w' hB h'
      simp only [List.length_nil, Nat.add_zero] at hl
      rw [hl]; exact this
  | true :: bs, i :: rest, listed, a, w, hB, hp, hl, h => by
    simp only [planB, Bool.and_eq_true] at hB
    obtain ⟨⟨⟨⟨hi, hpi⟩, hr⟩, hf⟩, hB'⟩ := hB
    obtain ⟨o, ho⟩ := Option.isSome_iff_exists.1 hi
    obtain ⟨v, hy, hK⟩ := h
    have e : ops.getD i default = o := by simp [ho]
    simp only [e] at hy hK
    exact anyG_first ho (Region.noSelect_spec hs) (fun c a w h => h) hpi (tailB_spec ht) bs.length listed a w (Region.free_spec ho hf) (by simpa using hr) hy (anyG_plan hs ht bs rest _ _ _ hB' hp (by simp at hl; omega) hK)
  | false :: bs, i :: rest, listed, a, w, hB, hp, hl, h => by
    simp only [planB, Bool.and_eq_true, beq_iff_eq] at hB
    obtain ⟨⟨hi, hr⟩, hB'⟩ := hB
    obtain ⟨o, ho⟩ := Option.isSome_iff_exists.1 hi
    have e : ops.getD i default = o := by simp [ho]
    intro w' hx
    refine ⟨fun he => (by rw [hr] at he; cases he), fun j hj => ?_⟩
    rw [hr] at hj
    obtain rfl : j = i := by simpa using hj
    obtain ⟨h1, h2⟩ := h w' hx
    simp only [e] at h1 h2
    unfold wpOp
    simp only [ho, h1, if_true]
    exact .inl (Oper.wp_mono (fun a' w'' h' => ⟨h'.1, anyG_plan hs ht bs rest _ _ _ hB' hp (by simp at hl; omega) h'.2⟩) h2)
  | true :: _, [], _, _, _, hB, _, _, _ => by simp [planB] at hB
  | false :: _, [], _, _, _, hB, _, _, _ => by simp [planB] at hB

/-- Which operations are the first. -/
def preOf (n : Nat) (bs : List Bool) (order : List Nat) : Array Bool := (order.take bs.length).foldl (fun p i => p.setIfInBounds i true) (Array.replicate n false)
def checkB (l : List Oper) (bs : List Bool) (order : List Nat) : Bool :=
  Region.noSelect l.toArray && (order.length == l.length && (decide (bs.length ≤ order.length) && (planB .any l.toArray (preOf l.length bs order) bs order (Array.replicate l.length false) &&
    (preB (preOf l.length bs order) bs order (Array.replicate l.length false) && tailB .any l.toArray (preOf l.length bs order)))))

/-- **A statement whose order is open, in a chosen order.** -/
theorem wp_plan (S : Addr → Prop) {id : Nat} {a : Act} {w : World} {l : List Oper} (order : List Nat) (bs : List Bool) (hm : P.follows .mixedOrders = true)
    (hB : checkB l bs order = true) {l' : List Oper} (hl' : order.map (fun i => l.toArray.getD i default) = l')
    (h : wpG S P l.toArray Q bs l' a w) : (Code.region id l.toArray true).wp P Q a w := by
  subst hl'
  simp only [checkB, Bool.and_eq_true, beq_iff_eq, decide_eq_true_eq] at hB
  obtain ⟨hs, hl, hbs, hp, hpr, ht⟩ := hB
  refine wp_mono (wp_region_any hm ?_) (Q := gQ Q) (fun e a w hq => by cases e <;> first | exact hq | exact hq.elim)
  have := anyG_plan (m := order.length - bs.length) (md := .any) hs ht bs order (Array.replicate l.length false) a w hp hpr (by omega) h
  have := wpAny_of_anyG _ _ _ _ (anyG_ext (Ext.drew (Ext.refl w)) _ _ _ this)
  rw [show bs.length + (order.length - bs.length) = l.length from by omega] at this
  simpa using this
def nth : List Oper → Nat → Oper
  | [], _ => default
  | o :: _, 0 => o
  | _ :: r, n + 1 => nth r n
theorem nth_eq (l : List Oper) : ∀ i, l.toArray.getD i default = nth l i := by
  induction l with
  | nil => intro i; simp [nth]
  | cons o r ih =>
    intro i
    cases i with
    | zero => simp [nth]
    | succ n =>
      have := ih n
      simp [nth] at *
      exact this
/-- .. the order written out. -/
theorem wp_perm (S : Addr → Prop) {id : Nat} {a : Act} {w : World} {l : List Oper} (order : List Nat) (bs : List Bool) (hm : P.follows .mixedOrders = true)
    (hB : checkB l bs order = true) {l' : List Oper} (hl' : order.map (nth l) = l')
    (h : wpG S P l.toArray Q bs l' a w) : (Code.region id l.toArray true).wp P Q a w :=
  wp_plan S order bs hm hB (by rw [← hl']; exact List.map_congr_left fun i _ => nth_eq l i) h
theorem lex_map (l : List Oper) : (List.range l.length).map (fun i => l.toArray.getD i default) = l := by
  apply List.ext_getElem
  · simp
  · intro i h1 h2
    simp [h2]
/-- .. in the order of the text. -/
theorem wp_lex (S : Addr → Prop) {id : Nat} {a : Act} {w : World} {l : List Oper} (bs : List Bool) (hm : P.follows .mixedOrders = true)
    (hB : checkB l bs (List.range l.length) = true) (h : wpG S P l.toArray Q bs l a w) : (Code.region id l.toArray true).wp P Q a w :=
  wp_plan S _ bs hm hB (lex_map l) h

section
variable {a a' : Act} {w : World} {dst : Option Tmp} {op : Op} {ty : TypeId} {pos : String} {after : Array Edge} {g : Option (Nat × Bool)} {rest : List Oper} {bs : List Bool} {v : Value}
theorem wpG_end (h : ∀ w', Ext w w' → wpList P ops (gQ Q) rest a w') : wpG S P ops Q [] rest a w := by cases rest <;> exact h
/-- An operation that only computes or reads. -/
theorem wpG_val (hg : Region.wanted ⟨dst, op, ty, pos, after, g⟩ (yielded ops a.tmps) = true)
    (hr : ∀ w', EOn S w w' → (execOp a.eval ⟨dst, op, ty, pos, after, g⟩).run P w' = .ok (.value v) w') (ha : a.put dst v = a')
    (h : wpG S P ops Q bs rest a' w) : wpG S P ops Q (true :: bs) (⟨dst, op, ty, pos, after, g⟩ :: rest) a w :=
  ⟨v, .inl ⟨hg, fun w' hx => by unfold Oper.quietAt; rw [hr w' hx]; exact ⟨rfl, rfl⟩⟩, by rw [show (Oper.mk dst op ty pos after g).dst = dst from rfl, ha]; exact h⟩
theorem wpG_move {x : Operand} (hg : Region.wanted ⟨dst, .move x, ty, pos, after, g⟩ (yielded ops a.tmps) = true)
    (hv : a.eval x = v) (ha : a.put dst v = a') (h : wpG S P ops Q bs rest a' w) : wpG S P ops Q (true :: bs) (⟨dst, .move x, ty, pos, after, g⟩ :: rest) a w :=
  wpG_val hg (fun _ _ => by subst hv; rfl) ha h
theorem wpG_assign {x : Operand} (hg : Region.wanted ⟨dst, .assign x, ty, pos, after, g⟩ (yielded ops a.tmps) = true)
    (hv : a.eval x = v) (ha : a.put dst v = a') (h : wpG S P ops Q bs rest a' w) : wpG S P ops Q (true :: bs) (⟨dst, .assign x, ty, pos, after, g⟩ :: rest) a w :=
  wpG_val hg (fun _ _ => by subst hv; rfl) ha h
/-- An operation whose guard says no. -/
theorem wpG_no (hg : Region.wanted ⟨dst, op, ty, pos, after, g⟩ (yielded ops a.tmps) = false) (ha : a.put dst undef = a')
    (h : wpG S P ops Q bs rest a' w) : wpG S P ops Q (true :: bs) (⟨dst, op, ty, pos, after, g⟩ :: rest) a w :=
  ⟨undef, .inr ⟨hg, rfl⟩, by rw [show (Oper.mk dst op ty pos after g).dst = dst from rfl, ha]; exact h⟩
/-- The same, the proofs of each step laid in. -/
theorem wpG_val' (h : wpG S P ops Q bs rest a' w) (hg : Region.wanted ⟨dst, op, ty, pos, after, g⟩ (yielded ops a.tmps) = true := by rfl)
    (hr : ∀ w', EOn S w w' → (execOp a.eval ⟨dst, op, ty, pos, after, g⟩).run P w' = .ok (.value v) w' := by intro w' hx; go_simp; first | (go_bits; first | exact rfl | exact ⟨by omega, rfl⟩) | exact rfl | exact (if_neg (by omega)).trans rfl | exact ⟨by omega, rfl⟩) (ha : a.put dst v = a' := by simp only [Act.put, List.setIfInBounds_toArray, List.set_cons_succ, List.set_cons_zero]; rfl) : wpG S P ops Q (true :: bs) (⟨dst, op, ty, pos, after, g⟩ :: rest) a w := wpG_val hg hr ha h
theorem wpG_move' {x : Operand} (h : wpG S P ops Q bs rest a' w) (hg : Region.wanted ⟨dst, .move x, ty, pos, after, g⟩ (yielded ops a.tmps) = true := by rfl)
    (hv : a.eval x = v := by simp only [Act.eval, Array.getD_eq_getD_getElem?, List.getElem?_toArray, List.getElem?_cons_succ, List.getElem?_cons_zero, Option.getD_some]; try rfl) (ha : a.put dst v = a' := by simp only [Act.put, List.setIfInBounds_toArray, List.set_cons_succ, List.set_cons_zero]; rfl) : wpG S P ops Q (true :: bs) (⟨dst, .move x, ty, pos, after, g⟩ :: rest) a w := wpG_move hg hv ha h
theorem wpG_assign' {x : Operand} (h : wpG S P ops Q bs rest a' w) (hg : Region.wanted ⟨dst, .assign x, ty, pos, after, g⟩ (yielded ops a.tmps) = true := by rfl)
    (hv : a.eval x = v := by simp only [Act.eval, Array.getD_eq_getD_getElem?, List.getElem?_toArray, List.getElem?_cons_succ, List.getElem?_cons_zero, Option.getD_some]; try rfl) (ha : a.put dst v = a' := by simp only [Act.put, List.setIfInBounds_toArray, List.set_cons_succ, List.set_cons_zero]; rfl) : wpG S P ops Q (true :: bs) (⟨dst, .assign x, ty, pos, after, g⟩ :: rest) a w := wpG_assign hg hv ha h
theorem wpG_no' (h : wpG S P ops Q bs rest a' w) (hg : Region.wanted ⟨dst, op, ty, pos, after, g⟩ (yielded ops a.tmps) = false := by rfl) (ha : a.put dst undef = a' := by simp only [Act.put, List.setIfInBounds_toArray, List.set_cons_succ, List.set_cons_zero]; rfl) : wpG S P ops Q (true :: bs) (⟨dst, op, ty, pos, after, g⟩ :: rest) a w := wpG_no hg ha h
/-- A call that hands back one value whatever the world. -/
theorem wpG_call {f : FuncId} {args : Array Value} (hg : Region.wanted ⟨dst, op, ty, pos, after, g⟩ (yielded ops a.tmps) = true)
    (hr : ∀ w', EOn S w w' → (execOp a.eval ⟨dst, op, ty, pos, after, g⟩).run P w' = .ok (.enter f args) w') (hc : ∀ w', EOn S w w' → Calls P f args w' fun e w'' => e = .returned v ∧ Ext w' w'')
    (ha : a.put dst v = a') (h : wpG S P ops Q bs rest a' w) : wpG S P ops Q (true :: bs) (⟨dst, op, ty, pos, after, g⟩ :: rest) a w :=
  ⟨v, .inl ⟨hg, fun w' hx => by unfold Oper.quietAt; rw [hr w' hx]; exact ⟨rfl, hc w' hx⟩⟩, by rw [show (Oper.mk dst op ty pos after g).dst = dst from rfl, ha]; exact h⟩
/-- An operation that stands alone. -/
theorem wpG_do (hg : Region.wanted ⟨dst, op, ty, pos, after, g⟩ (yielded ops a.tmps) = true)
    (h : ∀ w', Ext w w' → ∀ K : Act → World → Prop, (∀ a' w'', (EOn S w' w'' ∧ wpG S P ops Q bs rest a' w'') → K a' w'') → (Oper.mk dst op ty pos after g).wp P a w' K (gQ Q)) : wpG S P ops Q (false :: bs) (⟨dst, op, ty, pos, after, g⟩ :: rest) a w :=
  fun w' hx => ⟨hg, h w' hx _ fun _ _ h1 => h1⟩
end
end
end Go.Proofs.YtlmkbldiicbejaaGreatDoor
end

section
namespace Go.Proofs.YtlmkbldiicbejaaGreatDoor
open Go.RowKit

section
variable {S : Addr → Prop} {P : Program} {ops : Array Oper} {md : Region.Mode} {Q : Exit → Act → World → Prop} {pre : Array Bool} {m : Nat}

/-- Operations that give one value, one behind the other; then E. -/
def wpT (S : Addr → Prop) (P : Program) (ops : Array Oper) : List Oper → (Act → World → Prop) → Act → World → Prop
  | [], E, a, w => E a w
  | o :: rest, E, a, w => ∃ v, GivesG S P ops o v a w ∧ wpT S P ops rest E (a.put o.dst v) w
def planT (md : Region.Mode) (ops : Array Oper) (pre : Array Bool) : List Nat → Array Bool → Bool
  | i :: rest, listed => (ops[i]?).isSome && pre.getD i false && (Region.ready md ops listed).contains i && Region.free md ops listed i && planT md ops pre rest (listed.setIfInBounds i true)
  | [], _ => true
def after (l : List Nat) (listed : Array Bool) : Array Bool := l.foldl (fun p i => p.setIfInBounds i true) listed
theorem wpT_mono {E E' : Act → World → Prop} (h : ∀ a w, E a w → E' a w) : ∀ (l : List Oper) (a : Act) (w : World), wpT S P ops l E a w → wpT S P ops l E' a w
  | [], a, w, hh => h a w hh
  | _ :: rest, _, w, ⟨v, h1, h2⟩ => ⟨v, h1, wpT_mono h rest _ w h2⟩
theorem anyG_T (hs : Region.noSelect ops = true) (ht : tailB md ops pre = true) (k : Nat) : ∀ (l : List Nat) (listed : Array Bool) (a : Act) (w : World), planT md ops pre l listed = true →
    wpT S P ops (l.map fun i => ops.getD i default) (fun a w => anyG S P md ops (gQ Q) pre m k (after l listed) a w) a w → anyG S P md ops (gQ Q) pre m (k + l.length) listed a w
  | [], listed, a, w, _, h => h
  | i :: rest, listed, a, w, hB, h => by
    simp only [planT, Bool.and_eq_true] at hB
    obtain ⟨⟨⟨⟨hi, hpi⟩, hr⟩, hf⟩, hB'⟩ := hB
    obtain ⟨o, ho⟩ := Option.isSome_iff_exists.1 hi
    obtain ⟨v, hy, hK⟩ := h
    have e : ops.getD i default = o := by simp [ho]
    simp only [e] at hy hK
    exact anyG_first ho (Region.noSelect_spec hs) (fun c a w h => h) hpi (tailB_spec ht) (k + rest.length) listed a w (Region.free_spec ho hf) (by simpa using hr) hy (anyG_T hs ht k rest _ _ _ hB' hK)
/-- An operation that stands alone, or beside another one. -/
def stepF (S : Addr → Prop) (P : Program) (ops : Array Oper) (Q : Exit → Act → World → Prop) (o : Oper) (K : Act → World → Prop) (a : Act) (w : World) : Prop :=
  ∀ w', Ext w w' → Region.wanted o (yielded ops a.tmps) = true ∧ o.wp P a w' (fun a' w'' => EOn S w' w'' ∧ K a' w'') (gQ Q)
theorem stepF_do {o : Oper} {K : Act → World → Prop} {a : Act} {w : World} (hg : Region.wanted o (yielded ops a.tmps) = true)
    (h : ∀ w', Ext w w' → ∀ K' : Act → World → Prop, (∀ a' w'', (EOn S w' w'' ∧ K a' w'') → K' a' w'') → o.wp P a w' K' (gQ Q)) : stepF S P ops Q o K a w :=
  fun w' hx => ⟨hg, h w' hx _ fun _ _ h1 => h1⟩
theorem anyG_two {i j n : Nat} {listed : Array Bool} {a : Act} {w : World} (hr : Region.ready md ops listed = [i, j]) {oi oj : Oper} (hi : ops[i]? = some oi) (hj : ops[j]? = some oj)
    (h1 : stepF S P ops Q oi (fun a' w'' => anyG S P md ops (gQ Q) pre m n (listed.setIfInBounds i true) a' w'') a w) (h2 : stepF S P ops Q oj (fun a' w'' => anyG S P md ops (gQ Q) pre m n (listed.setIfInBounds j true) a' w'') a w) :
    anyG S P md ops (gQ Q) pre m (n + 1) listed a w := by
  intro w' hx
  refine ⟨by rw [hr]; simp, fun k hk => ?_⟩
  rw [hr] at hk
  rcases List.mem_cons.1 hk with rfl | hk
  · obtain ⟨a1, a2⟩ := h1 w' hx
    unfold wpOp
    simp only [hi, a1, if_true]
    exact .inl a2
  · obtain rfl : k = j := by simpa using hk
    obtain ⟨a1, a2⟩ := h2 w' hx
    unfold wpOp
    simp only [hj, a1, if_true]
    exact .inl a2
def checkTwo (l : List Oper) (o1 : List Nat) (i j : Nat) (oa ob : List Nat) (ba bb : List Bool) : Bool :=
  let ops := l.toArray; let pre := Array.replicate l.length true; let L0 := Array.replicate l.length false; let L1 := after o1 L0
  Region.noSelect ops && (planT .any ops pre o1 L0 && (Region.ready .any ops L1 == [i, j] && ((ops[i]?).isSome && ((ops[j]?).isSome && (planB .any ops pre ba oa (L1.setIfInBounds i true) && (planB .any ops pre bb ob (L1.setIfInBounds j true) &&
    (preB pre ba oa (L1.setIfInBounds i true) && (preB pre bb ob (L1.setIfInBounds j true) && (ba.length == oa.length && (bb.length == ob.length && (o1.length + 1 + oa.length == l.length && (o1.length + 1 + ob.length == l.length && tailB .any ops pre))))))))))))
/-- **A statement with two operations in either order.** -/
theorem wp_two (S : Addr → Prop) {id : Nat} {a : Act} {w : World} {l : List Oper} (o1 : List Nat) (i j : Nat) (oa ob : List Nat) (ba bb : List Bool) (hm : P.follows .mixedOrders = true) (hB : checkTwo l o1 i j oa ob ba bb = true)
    {l1 la lb : List Oper} {oi oj : Oper} (hl1 : o1.map (nth l) = l1) (hla : oa.map (nth l) = la) (hlb : ob.map (nth l) = lb) (hoi : nth l i = oi) (hoj : nth l j = oj)
    (h : wpT S P l.toArray l1 (fun a w => stepF S P l.toArray Q oi (wpG S P l.toArray Q ba la) a w ∧ stepF S P l.toArray Q oj (wpG S P l.toArray Q bb lb) a w) a w) : (Code.region id l.toArray true).wp P Q a w := by
  subst hl1 hla hlb hoi hoj
  simp only [checkTwo, Bool.and_eq_true, beq_iff_eq] at hB
  obtain ⟨hs, h1, hr, hi, hj, hpa, hpb, hqa, hqb, hea, heb, hna, hnb, ht⟩ := hB
  obtain ⟨oi, hoi⟩ := Option.isSome_iff_exists.1 hi
  obtain ⟨oj, hoj⟩ := Option.isSome_iff_exists.1 hj
  have ei : nth l i = oi := by rw [← nth_eq, Array.getD_eq_getD_getElem?, hoi]; rfl
  have ej : nth l j = oj := by rw [← nth_eq, Array.getD_eq_getD_getElem?, hoj]; rfl
  have emap : ∀ o : List Nat, o.map (nth l) = o.map fun i => l.toArray.getD i default := fun o => List.map_congr_left fun i _ => (nth_eq l i).symm
  refine wp_mono (wp_region_any hm ?_) (Q := gQ Q) (fun e a w hq => by cases e <;> first | exact hq | exact hq.elim)
  have key : anyG S P .any l.toArray (gQ Q) (Array.replicate l.length true) 0 ((oa.length + 1) + o1.length) (Array.replicate l.length false) a w := by
    refine anyG_T hs ht (oa.length + 1) o1 _ a w h1 ?_
    rw [← emap]
    refine wpT_mono (fun a w hh => ?_) _ a w h
    obtain ⟨ha, hb⟩ := hh
    rw [ei] at ha
    rw [ej] at hb
    refine anyG_two hr hoi hoj ?_ ?_
    · intro w' hx
      obtain ⟨g1, g2⟩ := ha w' hx
      refine ⟨g1, Oper.wp_mono (fun a' w'' h' => ⟨h'.1, ?_⟩) g2⟩
      have h2 := h'.2
      rw [emap] at h2
      have := anyG_plan (m := 0) (md := .any) hs ht ba oa _ a' w'' hpa hqa (by omega) h2
      rw [hea] at this
      exact this
    · intro w' hx
      obtain ⟨g1, g2⟩ := hb w' hx
      refine ⟨g1, Oper.wp_mono (fun a' w'' h' => ⟨h'.1, ?_⟩) g2⟩
      have h2 := h'.2
      rw [emap] at h2
      have := anyG_plan (m := 0) (md := .any) hs ht bb ob _ a' w'' hpb hqb (by omega) h2
      rw [heb, show ob.length = oa.length from by omega] at this
      exact this
  have := wpAny_of_anyG _ _ _ _ (anyG_ext (Ext.drew (Ext.refl w)) _ _ _ key)
  rw [show oa.length + 1 + o1.length + 0 = l.length from by omega] at this
  simpa using this
section
variable {a a' : Act} {w : World} {dst : Option Tmp} {op : Op} {ty : TypeId} {pos : String} {after : Array Edge} {g : Option (Nat × Bool)} {rest : List Oper} {v : Value} {E : Act → World → Prop}
theorem wpT_val (hg : Region.wanted ⟨dst, op, ty, pos, after, g⟩ (yielded ops a.tmps) = true)
    (hr : ∀ w', EOn S w w' → (execOp a.eval ⟨dst, op, ty, pos, after, g⟩).run P w' = .ok (.value v) w') (ha : a.put dst v = a')
    (h : wpT S P ops rest E a' w) : wpT S P ops (⟨dst, op, ty, pos, after, g⟩ :: rest) E a w :=
  ⟨v, .inl ⟨hg, fun w' hx => by unfold Oper.quietAt; rw [hr w' hx]; exact ⟨rfl, rfl⟩⟩, by rw [show (Oper.mk dst op ty pos after g).dst = dst from rfl, ha]; exact h⟩
theorem wpT_move {x : Operand} (hg : Region.wanted ⟨dst, .move x, ty, pos, after, g⟩ (yielded ops a.tmps) = true)
    (hv : a.eval x = v) (ha : a.put dst v = a') (h : wpT S P ops rest E a' w) : wpT S P ops (⟨dst, .move x, ty, pos, after, g⟩ :: rest) E a w :=
  wpT_val hg (fun _ _ => by subst hv; rfl) ha h
theorem wpT_val' (h : wpT S P ops rest E a' w) (hg : Region.wanted ⟨dst, op, ty, pos, after, g⟩ (yielded ops a.tmps) = true := by rfl)
    (hr : ∀ w', EOn S w w' → (execOp a.eval ⟨dst, op, ty, pos, after, g⟩).run P w' = .ok (.value v) w' := by intro w' hx; go_simp; first | (go_bits; first | exact rfl | exact ⟨by omega, rfl⟩) | exact rfl | exact (if_neg (by omega)).trans rfl | exact ⟨by omega, rfl⟩) (ha : a.put dst v = a' := by simp only [Act.put, List.setIfInBounds_toArray, List.set_cons_succ, List.set_cons_zero]; rfl) : wpT S P ops (⟨dst, op, ty, pos, after, g⟩ :: rest) E a w := wpT_val hg hr ha h
theorem wpT_move' {x : Operand} (h : wpT S P ops rest E a' w) (hg : Region.wanted ⟨dst, .move x, ty, pos, after, g⟩ (yielded ops a.tmps) = true := by rfl)
    (hv : a.eval x = v := by simp only [Act.eval, Array.getD_eq_getD_getElem?, List.getElem?_toArray, List.getElem?_cons_succ, List.getElem?_cons_zero, Option.getD_some]; try rfl) (ha : a.put dst v = a' := by simp only [Act.put, List.setIfInBounds_toArray, List.set_cons_succ, List.set_cons_zero]; rfl) : wpT S P ops (⟨dst, .move x, ty, pos, after, g⟩ :: rest) E a w := wpT_move hg hv ha h
theorem wpT_end (h : E a w) : wpT S P ops [] E a w := h
end
end
end Go.Proofs.YtlmkbldiicbejaaGreatDoor
end

section
namespace Go.Proofs.YtlmkbldiicbejaaGreatDoor
open Go.RowKit

section
variable {S : Addr → Prop} {P : Program} {ops : Array Oper} {md : Region.Mode} {Q : Exit → Act → World → Prop} {pre dead : Array Bool} {m : Nat}

theorem dead_set {listed : Array Bool} (h : ∀ j, dead.getD j false = true → listed.getD j true = true) (i : Nat) : ∀ j, dead.getD j false = true → (listed.setIfInBounds i true).getD j true = true := by
  intro j hj
  by_cases hji : i = j
  · subst hji
    rw [Array.getD_eq_getD_getElem?, Array.getElem?_setIfInBounds]
    simp
    split <;> simp
  · rw [getD_set_ne true hji]
    exact h j hj
theorem dead_false {listed : Array Bool} (h : ∀ j, dead.getD j false = true → listed.getD j true = true) {j : Nat} (hj : listed.getD j true = false) : dead.getD j false = false := by
  rcases Bool.eq_false_or_eq_true (dead.getD j false) with hd | hd
  · rw [h j hd] at hj; cases hj
  · exact hd
/-- The last operations, but for those that are done, wait for all the first. -/
def tailD (md : Region.Mode) (ops : Array Oper) (pre dead : Array Bool) : Bool :=
  (List.range ops.size).all fun j => pre.getD j false || (dead.getD j false || (List.range pre.size).all fun p => !pre.getD p false || ((ops[j]?).map fun o => o.after.any fun e => Region.binds md e && e.on == p).getD true)
theorem tailD_spec (h : tailD md ops pre dead = true) (j : Nat) (oj : Oper) (hj : ops[j]? = some oj) (hp : pre.getD j false = false) (hd : dead.getD j false = false) (p : Nat) (hpp : pre.getD p false = true) : ∃ e ∈ oj.after, Region.binds md e = true ∧ e.on = p := by
  simp only [tailD, List.all_eq_true, List.mem_range, Bool.or_eq_true] at h
  have h1 := ((h j (Array.getElem?_eq_some_iff.1 hj).1).resolve_left (by simp [hp])).resolve_left (by simp [hd])
  have hlt : p < pre.size := by
    rcases Nat.lt_or_ge p pre.size with g | g
    · exact g
    · simp [Array.getElem?_eq_none g] at hpp
  have h2 := (h1 p hlt).resolve_left (by simp [hpp])
  simp only [hj, Option.map_some, Option.getD_some, Array.any_eq_true', Bool.and_eq_true, beq_iff_eq] at h2
  exact h2
theorem anyD_first {i : Nat} {oi : Oper} {v : Value} (hi : ops[i]? = some oi) (hsel : ∀ (j : Nat) (o : Oper) cs b, ops[j]? = some o → o.op ≠ .select cs b)
    (hQ : ∀ c a w, ¬ Q (.panic c) a w) (hpre : pre.getD i false = true)
    (htail : ∀ j oj, ops[j]? = some oj → pre.getD j false = false → dead.getD j false = false → ∀ p, pre.getD p false = true → ∃ e ∈ oj.after, Region.binds md e = true ∧ e.on = p) :
    ∀ (n : Nat) (listed : Array Bool) (a : Act) (w : World), (∀ j, dead.getD j false = true → listed.getD j true = true) →
      (∀ j oj, ops[j]? = some oj → j ≠ i → listed.getD j true = false → (∀ e ∈ oj.after, Region.binds md e = true → e.on ≠ i) → oi.apart ops oj = true) →
      i ∈ Region.ready md ops listed → GivesG S P ops oi v a w →
      anyG S P md ops Q pre m n (listed.setIfInBounds i true) (a.put oi.dst v) w → anyG S P md ops Q pre m (n + 1) listed a w := by
  intro n
  induction n with
  | zero =>
    intro listed a w hdead _ hr hy H w' hx
    refine ⟨fun h => (by rw [h] at hr; cases hr), fun j hj => ?_⟩
    by_cases hji : j = i
    · subst hji; exact hy.wpOp hi (EOn.of_ext hx) fun w'' h'' => ⟨EOn.of_ext h'', anyG_ext (hx.trans h'') 0 _ _ H⟩
    · obtain ⟨hjun, oj, hoj, hall⟩ := mem_ready.1 hj
      exfalso
      by_cases hp : pre.getD j false = true
      · have := H.1 j hp
        rw [getD_set_ne true (Ne.symm hji), hjun] at this
        cases this
      · obtain ⟨e, he, hb, hon⟩ := htail j oj hoj (by simpa using hp) (dead_false hdead hjun) i hpre
        have g1 := hall e he hb
        have g0 := (mem_ready.1 hr).1
        rw [hon] at g1
        rcases Nat.lt_or_ge i listed.size with h' | h'
        · simp [h'] at g0 g1; rw [g0] at g1; cases g1
        · simp [Array.getElem?_eq_none h'] at g1
  | succ n ih =>
    intro listed a w hdead hfree hr hy H w' hx
    refine ⟨fun h => (by rw [h] at hr; cases hr), fun j hj => ?_⟩
    by_cases hji : j = i
    · subst hji; exact hy.wpOp hi (EOn.of_ext hx) fun w'' h'' => ⟨EOn.of_ext h'', anyG_ext (hx.trans h'') (n + 1) _ _ H⟩
    · have h1 := (H w' hx).2 j (ready_mono hj hji)
      obtain ⟨hjun, oj, hoj, hall⟩ := mem_ready.1 hj
      have hnot : ∀ e ∈ oj.after, Region.binds md e = true → e.on ≠ i := fun e he hb heq => by
        have g1 := hall e he hb
        have g0 := (mem_ready.1 hr).1
        rw [heq] at g1
        rcases Nat.lt_or_ge i listed.size with h' | h'
        · simp [h'] at g0 g1; rw [g0] at g1; cases g1
        · simp [Array.getElem?_eq_none h'] at g1
      have hap := hfree j oj hoj hji hjun hnot
      have h2 := wpOp_putIf (S := fun _ => False) hoj hap (fun cs b => hsel i oi cs b hi) (fun cs b => hsel j oj cs b hoj) (fun c a w h => absurd h (hQ c _ w))
        (by
          rcases hy with ⟨g1, _⟩ | ⟨g1, g2⟩
          · exact .inl ⟨g1, fun _ hf => hf.elim⟩
          · exact .inr ⟨g1, g2⟩) h1
      have h3 := wpOp_sees (oi := oi) hoj (Oper.apart_spec hap).2.2 (fun cs b => hsel i oi cs b hi) h2
      refine wpOp_mono (fun a' w'' h4 => ?_) h3
      obtain ⟨⟨e1, e2⟩, _, hx2, hK⟩ := h4
      refine ⟨hx2, ih (listed.setIfInBounds j true) a' w'' (dead_set hdead j) (fun k ok hk hki hun hno => ?_) (ready_mono hr (Ne.symm hji)) ((hy.same e1 e2).ext ((EOn.of_ext hx).trans hx2)) (by rw [Array.setIfInBounds_comm _ _ hji]; exact hK)⟩
      refine hfree k ok hk hki ?_ hno
      by_cases hjk : j = k
      · subst hjk; exact hjun
      · rw [getD_set_ne true hjk] at hun; exact hun

theorem anyD_plan (hs : Region.noSelect ops = true) (ht : tailD md ops pre dead = true) : ∀ (bs : List Bool) (l : List Nat) (listed : Array Bool) (a : Act) (w : World), (∀ j, dead.getD j false = true → listed.getD j true = true) → planB md ops pre bs l listed = true → preB pre bs l listed = true → m + bs.length = l.length →
    wpG S P ops Q bs (l.map fun i => ops.getD i default) a w → anyG S P md ops (gQ Q) pre m bs.length listed a w
  | [], l, listed, a, w, hdead, hB, hp, hl, h => by
    refine ⟨fun j hj => ?_, fun w' hx => ?_⟩
    · have hp' : ((List.range pre.size).all fun j => !pre.getD j false || listed.getD j true) = true := by cases l <;> exact hp
      have hlt : j < pre.size := by
        rcases Nat.lt_or_ge j pre.size with g | g
        · exact g
        · simp [Array.getElem?_eq_none g] at hj
      have := List.all_eq_true.1 hp' j (List.mem_range.2 hlt)
      rw [hj] at this
      simpa using this
    · have h' : wpList P ops (gQ Q) (l.map fun i => ops.getD i default) a w' := by cases l <;> exact h w' hx
      have := wpAny_tail l listed a w' hB h'
      simp only [List.length_nil, Nat.add_zero] at hl
      rw [hl]; exact this
  | true :: bs, i :: rest, listed, a, w, hdead, hB, hp, hl, h => by
    simp only [planB, Bool.and_eq_true] at hB
    obtain ⟨⟨⟨⟨hi, hpi⟩, hr⟩, hf⟩, hB'⟩ := hB
    obtain ⟨o, ho⟩ := Option.isSome_iff_exists.1 hi
    obtain ⟨v, hy, hK⟩ := h
    have e : ops.getD i default = o := by simp [ho]
    simp only [e] at hy hK
    exact anyD_first ho (Region.noSelect_spec hs) (fun c a w h => h) hpi (tailD_spec ht) bs.length listed a w hdead (Region.free_spec ho hf) (by simpa using hr) hy (anyD_plan hs ht bs rest _ _ _ (dead_set hdead _) hB' hp (by simp at hl; omega) hK)
  | false :: bs, i :: rest, listed, a, w, hdead, hB, hp, hl, h => by
    simp only [planB, Bool.and_eq_true, beq_iff_eq] at hB
    obtain ⟨⟨hi, hr⟩, hB'⟩ := hB
    obtain ⟨o, ho⟩ := Option.isSome_iff_exists.1 hi
    have e : ops.getD i default = o := by simp [ho]
    intro w' hx
    refine ⟨fun he => (by rw [hr] at he; cases he), fun j hj => ?_⟩
    rw [hr] at hj
    obtain rfl : j = i := by simpa using hj
    obtain ⟨h1, h2⟩ := h w' hx
    simp only [e] at h1 h2
    unfold wpOp
    simp only [ho, h1, if_true]
    exact .inl (Oper.wp_mono (fun a' w'' h' => ⟨h'.1, anyD_plan hs ht bs rest _ _ _ (dead_set hdead _) hB' hp (by simp at hl; omega) h'.2⟩) h2)
  | true :: _, [], _, _, _, _, hB, _, _, _ => by simp [planB] at hB
  | false :: _, [], _, _, _, _, hB, _, _, _ => by simp [planB] at hB


/-- An operation that only reckons: one value, whatever the world. -/
def Reck (P : Program) (ops : Array Oper) (o : Oper) (v : Value) (a : Act) : Prop := Region.wanted o (yielded ops a.tmps) = true ∧ ∀ w, (execOp a.eval o).run P w = .ok (.value v) w
theorem reck_wpOp {i : Nat} {o : Oper} {v : Value} {a : Act} {w : World} (hi : ops[i]? = some o) (h : Reck P ops o v a) {K : Act → World → Prop} (hK : K (a.put o.dst v) w) : wpOp P ops Q i K a w := by
  unfold Go.wpOp
  simp only [hi, h.1, if_true]
  refine .inl ?_
  unfold Oper.wp
  rw [h.2 w]
  exact hK
theorem wpAny_first {i : Nat} {oi : Oper} {v : Value} (hi : ops[i]? = some oi) (hsel : ∀ (j : Nat) (o : Oper) cs b, ops[j]? = some o → o.op ≠ .select cs b) (hQ : ∀ c a w, ¬ Q (.panic c) a w) :
    ∀ (n : Nat) (listed : Array Bool) (a : Act) (w : World),
      (∀ j oj, ops[j]? = some oj → j ≠ i → listed.getD j true = false → (∀ e ∈ oj.after, Region.binds md e = true → e.on ≠ i) → oi.apart ops oj = true) →
      i ∈ Region.ready md ops listed → Reck P ops oi v a →
      wpAny P md ops Q n (listed.setIfInBounds i true) (a.put oi.dst v) w → wpAny P md ops Q (n + 1) listed a w := by
  have hnot : ∀ (listed : Array Bool) (j : Nat) (oj : Oper), i ∈ Region.ready md ops listed → j ≠ i → (∀ e ∈ oj.after, Region.binds md e = true → listed.getD e.on false = true) → ∀ e ∈ oj.after, Region.binds md e = true → e.on ≠ i := by
    intro listed j oj hr hji hall e he hb heq
    have g1 := hall e he hb
    have g0 := (mem_ready.1 hr).1
    rw [heq] at g1
    rcases Nat.lt_or_ge i listed.size with h' | h'
    · simp [h'] at g0 g1; rw [g0] at g1; cases g1
    · simp [Array.getElem?_eq_none h'] at g1
  intro n
  induction n with
  | zero =>
    intro listed a w _ hr hy H
    refine ⟨fun h => (by rw [h] at hr; cases hr), fun j hj => ?_⟩
    by_cases hji : j = i
    · subst hji; exact reck_wpOp hi hy H
    · exfalso
      have h1 := H.1
      have := ready_mono hj hji
      rw [h1] at this
      cases this
  | succ n ih =>
    intro listed a w hfree hr hy H
    refine ⟨fun h => (by rw [h] at hr; cases hr), fun j hj => ?_⟩
    by_cases hji : j = i
    · subst hji; exact reck_wpOp hi hy H
    · have h1 := H.2 j (ready_mono hj hji)
      obtain ⟨hjun, oj, hoj, hall⟩ := mem_ready.1 hj
      have hap := hfree j oj hoj hji hjun (hnot listed j oj hr hji hall)
      have h2 := wpOp_putIf (S := fun _ => False) hoj hap (fun cs b => hsel i oi cs b hi) (fun cs b => hsel j oj cs b hoj) (fun c a w h => absurd h (hQ c _ w)) (.inl ⟨hy.1, fun _ hf => hf.elim⟩) h1
      have h3 := wpOp_sees (oi := oi) hoj (Oper.apart_spec hap).2.2 (fun cs b => hsel i oi cs b hi) h2
      refine wpOp_mono (fun a' w'' h4 => ?_) h3
      obtain ⟨⟨e1, e2⟩, _, hK⟩ := h4
      refine ih (listed.setIfInBounds j true) a' w'' (fun k ok hk hki hun hno => ?_) (ready_mono hr (Ne.symm hji)) ⟨by rw [e2]; exact hy.1, fun w => by rw [e1]; exact hy.2 w⟩ (by rw [Array.setIfInBounds_comm _ _ hji]; exact hK)
      refine hfree k ok hk hki ?_ hno
      by_cases hjk : j = k
      · subst hjk; exact hjun
      · rw [getD_set_ne true hjk] at hun; exact hun
def wpP (P : Program) (ops : Array Oper) : List Oper → (Act → World → Prop) → Act → World → Prop
  | [], E, a, w => E a w
  | o :: rest, E, a, w => ∃ v, Reck P ops o v a ∧ wpP P ops rest E (a.put o.dst v) w
theorem wpP_mono {E E' : Act → World → Prop} (h : ∀ a w, E a w → E' a w) : ∀ (l : List Oper) (a : Act) (w : World), wpP P ops l E a w → wpP P ops l E' a w
  | [], a, w, hh => h a w hh
  | _ :: rest, _, w, ⟨v, h1, h2⟩ => ⟨v, h1, wpP_mono h rest _ w h2⟩
theorem wpAny_P (hs : Region.noSelect ops = true) (k : Nat) : ∀ (l : List Nat) (listed : Array Bool) (a : Act) (w : World), planT md ops pre l listed = true →
    wpP P ops (l.map fun i => ops.getD i default) (fun a w => wpAny P md ops (gQ Q) k (after l listed) a w) a w → wpAny P md ops (gQ Q) (k + l.length) listed a w
  | [], listed, a, w, _, h => h
  | i :: rest, listed, a, w, hB, h => by
    simp only [planT, Bool.and_eq_true] at hB
    obtain ⟨⟨⟨⟨hi, hpi⟩, hr⟩, hf⟩, hB'⟩ := hB
    obtain ⟨o, ho⟩ := Option.isSome_iff_exists.1 hi
    obtain ⟨v, hy, hK⟩ := h
    have e : ops.getD i default = o := by simp [ho]
    simp only [e] at hy hK
    exact wpAny_first ho (Region.noSelect_spec hs) (fun c a w h => h) (k + rest.length) listed a w (Region.free_spec ho hf) (by simpa using hr) hy (wpAny_P hs k rest _ _ _ hB' hK)
def checkC (l : List Oper) (oa ob : List Nat) (bs : List Bool) : Bool :=
  let ops := l.toArray; let L0 := Array.replicate l.length false; let L1 := after oa L0; let pre := preOf l.length bs ob
  Region.noSelect ops && (planT .any ops (Array.replicate l.length true) oa L0 && (planB .any ops pre bs ob L1 && (preB pre bs ob L1 && (tailD .any ops pre L1 && (decide (bs.length ≤ ob.length) && (oa.length + ob.length == l.length && L1.size == l.length))))))
theorem getD_two {L : Array Bool} {n : Nat} (_hn : L.size = n) (j : Nat) (h : L.getD j false = true) : L.getD j true = true := by
  rcases Nat.lt_or_ge j L.size with g | g
  · simp [g] at h ⊢; exact h
  · simp [Array.getElem?_eq_none g] at h
/-- **What only reckons first, then what reads, then the rest.** -/
theorem wp_reck (S : Addr → Prop) {id : Nat} {a : Act} {w : World} {l : List Oper} (oa ob : List Nat) (bs : List Bool) (hm : P.follows .mixedOrders = true) (hB : checkC l oa ob bs = true)
    {la lb : List Oper} (hla : oa.map (nth l) = la) (hlb : ob.map (nth l) = lb)
    (h : ∀ w', Ext w w' → wpP P l.toArray la (fun a w => wpG S P l.toArray Q bs lb a w) a w') : (Code.region id l.toArray true).wp P Q a w := by
  subst hla hlb
  simp only [checkC, Bool.and_eq_true, beq_iff_eq, decide_eq_true_eq] at hB
  obtain ⟨hs, h1, h2, h3, h4, h5, h6, h7⟩ := hB
  have emap : ∀ o : List Nat, o.map (nth l) = o.map fun i => l.toArray.getD i default := fun o => List.map_congr_left fun i _ => (nth_eq l i).symm
  refine wp_mono (wp_region_any hm ?_) (Q := gQ Q) (fun e a w hq => by cases e <;> first | exact hq | exact hq.elim)
  have key := wpAny_P (P := P) (Q := Q) (md := .any) hs ob.length oa (Array.replicate l.length false) a w.drew h1 ?_
  · rw [show ob.length + oa.length = l.length from by omega] at key
    simpa using key
  · have hh := h w.drew (Ext.drew (Ext.refl w))
    rw [← emap]
    refine wpP_mono (fun a w hh => ?_) _ a _ hh
    rw [emap] at hh
    have := anyD_plan (S := S) (m := ob.length - bs.length) (md := .any) hs h4 bs ob _ a w (fun j hj => getD_two h7 j hj) h2 h3 (by omega) hh
    have := wpAny_of_anyG _ _ _ _ this
    rw [show bs.length + (ob.length - bs.length) = ob.length from by omega] at this
    exact this
section
variable {a a' : Act} {w : World} {dst : Option Tmp} {op : Op} {ty : TypeId} {pos : String} {after : Array Edge} {g : Option (Nat × Bool)} {rest : List Oper} {v : Value} {E : Act → World → Prop}
theorem wpP_val (hg : Region.wanted ⟨dst, op, ty, pos, after, g⟩ (yielded ops a.tmps) = true)
    (hr : ∀ w', (execOp a.eval ⟨dst, op, ty, pos, after, g⟩).run P w' = .ok (.value v) w') (ha : a.put dst v = a')
    (h : wpP P ops rest E a' w) : wpP P ops (⟨dst, op, ty, pos, after, g⟩ :: rest) E a w :=
  ⟨v, ⟨hg, hr⟩, by rw [show (Oper.mk dst op ty pos after g).dst = dst from rfl, ha]; exact h⟩
theorem wpP_move {x : Operand} (hg : Region.wanted ⟨dst, .move x, ty, pos, after, g⟩ (yielded ops a.tmps) = true)
    (hv : a.eval x = v) (ha : a.put dst v = a') (h : wpP P ops rest E a' w) : wpP P ops (⟨dst, .move x, ty, pos, after, g⟩ :: rest) E a w :=
  wpP_val hg (fun _ => by subst hv; rfl) ha h
theorem wpP_val' (h : wpP P ops rest E a' w) (hg : Region.wanted ⟨dst, op, ty, pos, after, g⟩ (yielded ops a.tmps) = true := by rfl)
    (hr : ∀ w', (execOp a.eval ⟨dst, op, ty, pos, after, g⟩).run P w' = .ok (.value v) w' := by intro w'; go_simp; first | (go_bits; first | exact rfl | exact ⟨by omega, rfl⟩) | exact rfl | exact (if_neg (by omega)).trans rfl | exact ⟨by omega, rfl⟩) (ha : a.put dst v = a' := by simp only [Act.put, List.setIfInBounds_toArray, List.set_cons_succ, List.set_cons_zero]; rfl) : wpP P ops (⟨dst, op, ty, pos, after, g⟩ :: rest) E a w := wpP_val hg hr ha h
theorem wpP_move' {x : Operand} (h : wpP P ops rest E a' w) (hg : Region.wanted ⟨dst, .move x, ty, pos, after, g⟩ (yielded ops a.tmps) = true := by rfl)
    (hv : a.eval x = v := by simp only [Act.eval, Array.getD_eq_getD_getElem?, List.getElem?_toArray, List.getElem?_cons_succ, List.getElem?_cons_zero, Option.getD_some]; try rfl) (ha : a.put dst v = a' := by simp only [Act.put, List.setIfInBounds_toArray, List.set_cons_succ, List.set_cons_zero]; rfl) : wpP P ops (⟨dst, .move x, ty, pos, after, g⟩ :: rest) E a w := wpP_move hg hv ha h
theorem wpP_end (h : E a w) : wpP P ops [] E a w := h
end
end
end Go.Proofs.YtlmkbldiicbejaaGreatDoor
end

section
namespace Go.Proofs.YtlmkbldiicbejaaGreatDoor
open Go.RowKit

variable {P : Program}
theorem rows_wide {n l : Nat} {row : String} {args : Array Value} {w : World} {R : Value → World → Prop} (h : Rows P row args w R) : RowsIn (Fence.wide.inRound l) n P row args w R :=
  fun c cs _ => let ⟨v, w', r, s⟩ := h c cs; ⟨v, w', r, by rw [fenced_inRound]; exact stepsIn_wide.2 s⟩
/-- An operation walked anywhere is walked in a round. -/
theorem oper_round {n l : Nat} {o : Oper} {a : Act} {w : World} {K : Act → World → Prop} {Q Q' : Exit → Act → World → Prop} (hd : ∀ c, o.op ≠ .defer c) (hQ : ∀ e a w, e ≠ .normal → ¬ Q e a w) (h : o.wp P a w K Q) : o.wpIn (Fence.wide.inRound l) n P a w K Q' := by
  refine ⟨fun _ _ => trivial, ?_⟩
  rw [Oper.semAt_eq _ _ _ hd]
  unfold Oper.wp at h
  generalize (execOp a.eval o).run P w = r at *
  cases r with
  | ok x w' =>
    cases x with
    | value v => exact h
    | skip => exact h
    | defer d => exact h
    | enter f args =>
      refine ⟨(fun h => by cases h), CallsIn.inRound l (callsIn_wide.2 (Calls.mono h ?_))⟩
      intro e w2 he
      cases e with
      | returned v => exact he
      | panicked c => exact absurd he (hQ _ _ _ (by simp))
      | outgrown => obtain ⟨a', w3, h3⟩ := he; exact absurd h3 (hQ _ _ _ (by simp))
    | row row args => exact ⟨(fun h => by cases h), rows_wide h⟩
    | _ => exact h.elim
  | halt x w' => cases x <;> first | exact absurd h (hQ _ _ _ (by simp)) | exact h.elim
theorem any_round {n' l : Nat} {md : Region.Mode} {ops : Array Oper} {Q Q' : Exit → Act → World → Prop} (hd : ∀ (i : Nat) (o : Oper), ops[i]? = some o → ∀ c, o.op ≠ .defer c) (hQ : ∀ e a w, e ≠ .normal → ¬ Q e a w) (hQ' : ∀ a w, Q .normal a w → Q' .normal a w) :
    ∀ (n : Nat) (listed : Array Bool) (a : Act) (w : World), wpAny P md ops Q n listed a w → wpAnyIn (Fence.wide.inRound l) n' P md ops Q' n listed a w
  | 0, _, _, _, h => ⟨h.1, hQ' _ _ h.2⟩
  | n + 1, listed, a, w, h => by
    refine ⟨fun e => hQ' _ _ (h.1 e), fun i hi => ?_⟩
    have h2 := h.2 i hi
    unfold wpOp at h2
    unfold wpOpIn
    cases ho : ops[i]? with
    | none => simp only [ho] at h2 ⊢; exact any_round hd hQ hQ' n _ _ _ h2
    | some o =>
      simp only [ho] at h2 ⊢
      by_cases hw : Region.wanted o (yielded ops a.tmps) = true
      · simp only [hw, if_true] at h2 ⊢
        rcases h2 with h2 | ⟨_, a', w', h3⟩
        · exact oper_round (hd i o ho) hQ (Oper.wp_mono (fun a w h => any_round hd hQ hQ' n _ _ _ h) h2)
        · exact absurd h3 (hQ _ _ _ (by simp))
      · simp only [hw] at h2 ⊢
        exact ⟨fun _ _ => trivial, any_round hd hQ hQ' n _ _ _ h2⟩
def isDefer : Op → Bool
  | .defer _ => true
  | _ => false
/-- The walk in a chosen order, in a round. -/
theorem wpIn_plan (S : Addr → Prop) {n l id : Nat} {Q : Exit → Act → World → Prop} {a : Act} {w : World} {ol : List Oper} (order : List Nat) (bs : List Bool) (hm : P.follows .mixedOrders = true) (hnd : (ol.all fun o => !isDefer o.op) = true)
    (hB : checkB ol bs order = true) {l' : List Oper} (hl' : order.map (fun i => ol.toArray.getD i default) = l')
    (h : wpG S P ol.toArray (fun e a w => e = .normal ∧ Q .normal a w) bs l' a w) : (Code.region id ol.toArray true).wpIn (Fence.wide.inRound l) n P Q a w := by
  subst hl'
  simp only [checkB, Bool.and_eq_true, beq_iff_eq, decide_eq_true_eq] at hB
  obtain ⟨hs, hl, hbs, hp, hpr, ht⟩ := hB
  refine wpIn_region_any hm ?_
  have := anyG_plan (m := order.length - bs.length) (md := .any) hs ht bs order (Array.replicate ol.length false) a w hp hpr (by omega) h
  have := wpAny_of_anyG _ _ _ _ (anyG_ext (Ext.drew (Ext.refl w)) _ _ _ this)
  rw [show bs.length + (order.length - bs.length) = ol.length from by omega] at this
  refine any_round (fun i o ho c hc => ?_) (fun e a w he hq => ?_) (fun a w hq => (show _ ∧ _ from hq).2) _ _ _ _ (by simpa using this)
  · have hm : o ∈ ol := List.mem_of_getElem? (by simpa using ho)
    have := List.all_eq_true.1 hnd o hm
    rw [hc] at this
    simp [isDefer] at this
  · cases e <;> first | exact he rfl | exact hq.elim | exact he hq.1
theorem wpIn_lex (S : Addr → Prop) {n l id : Nat} {Q : Exit → Act → World → Prop} {a : Act} {w : World} {ol : List Oper} (bs : List Bool) (hm : P.follows .mixedOrders = true) (hnd : (ol.all fun o => !isDefer o.op) = true)
    (hB : checkB ol bs (List.range ol.length) = true) (h : wpG S P ol.toArray (fun e a w => e = .normal ∧ Q .normal a w) bs ol a w) : (Code.region id ol.toArray true).wpIn (Fence.wide.inRound l) n P Q a w :=
  wpIn_plan S _ bs hm hnd hB (lex_map ol) h
/-- One operation alone, as a list of one. -/
theorem wp_alone {ops : Array Oper} {o : Oper} {a : Act} {w : World} {K : Act → World → Prop} {Q : Exit → Act → World → Prop} (hw : Region.wanted o (yielded ops a.tmps) = true) (hQ : ∀ a w, ¬ Q .outgrown a w)
    (h : wpList P ops (fun e a w => match e with | .normal => K a w | e => Q e a w) [o] a w) : o.wp P a w K Q := by
  unfold wpList at h
  simp only [hw, if_true] at h
  rcases h with h | ⟨_, a', w', h⟩
  · unfold Oper.wp at *
    generalize (execOp a.eval o).run P w = r at *
    cases r with
    | ok x w' =>
      cases x with
      | enter f args =>
        refine Calls.mono h fun e w2 he => ?_
        cases e with
        | returned v => exact he
        | panicked c => exact he
        | outgrown => obtain ⟨a', w3, h3⟩ := he; exact absurd h3 (hQ _ _)
      | value v => exact h
      | skip => exact h
      | defer d => exact h
      | row row args => exact h
      | _ => exact h
    | halt x w' => cases x <;> exact h
  · exact absurd h (hQ _ _)
/-- The walk in a chosen order; it ends in no other way. -/
theorem wp_lexN (S : Addr → Prop) {id : Nat} {Q : Exit → Act → World → Prop} {a : Act} {w : World} {ol : List Oper} (bs : List Bool) (hm : P.follows .mixedOrders = true)
    (hB : checkB ol bs (List.range ol.length) = true) (h : wpG S P ol.toArray (fun e a w => e = .normal ∧ Q .normal a w) bs ol a w) : (Code.region id ol.toArray true).wp P Q a w :=
  wp_mono (wp_lex S bs hm hB h) fun e a w hq => by obtain ⟨rfl, h⟩ := hq; exact h
theorem wp_planN (S : Addr → Prop) {id : Nat} {Q : Exit → Act → World → Prop} {a : Act} {w : World} {ol : List Oper} (order : List Nat) (bs : List Bool) (hm : P.follows .mixedOrders = true)
    (hB : checkB ol bs order = true) {l' : List Oper} (hl' : order.map (fun i => ol.toArray.getD i default) = l') (h : wpG S P ol.toArray (fun e a w => e = .normal ∧ Q .normal a w) bs l' a w) : (Code.region id ol.toArray true).wp P Q a w :=
  wp_mono (wp_plan S order bs hm hB hl' h) fun e a w hq => by obtain ⟨rfl, h⟩ := hq; exact h
end Go.Proofs.YtlmkbldiicbejaaGreatDoor
end

section
namespace Go.Proofs.YtlmkbldiicbejaaGreatDoor
open Go.RowKit Go.Maps

section
variable {P : Program} {kT eT mT : TypeId} {W : World} {m : Nat} {kv : List (Value × Value)}

/-- What entries a map holds. -/
def MapIs (W : World) (m : Nat) (kv : List (Value × Value)) : Prop := ∃ es clock, W.heap[m]? = some (.map es clock) ∧ es.toList.map (fun e => (e.key, e.val)) = kv ∧ (∀ e ∈ es.toList, e.born < clock) ∧ es.toList.Pairwise (fun x y => x.born ≠ y.born)
theorem MapIs.new (W : World) : MapIs (W.alloc (.map #[] 0)) W.heap.size [] := ⟨#[], 0, World.alloc_heap_new W _, rfl, by simp, by simp⟩
theorem MapIs.lt (h : MapIs W m kv) : m < W.heap.size := by obtain ⟨_, _, hb, _⟩ := h; exact blk_lt hb
theorem MapIs.of_blk {W' : World} (h : MapIs W m kv) (hg : ∀ o, W.heap[m]? = some o → o.isCells = false → W'.heap[m]? = some o) : MapIs W' m kv := by
  obtain ⟨es, clock, hb, e⟩ := h
  exact ⟨es, clock, hg _ hb rfl, e⟩
theorem MapIs.kept {W' : World} {row : Option Nat} (h : MapIs W m kv) (hg : W.grownBy W' row) (hne : some m ≠ row) : MapIs W' m kv :=
  h.of_blk fun _ ho _ => (hg.block m h.lt hne).trans ho
theorem MapIs.ext {W' : World} (h : MapIs W m kv) (hx : Ext W W') : MapIs W' m kv := h.of_blk fun _ ho _ => hx.blk ho
/-- A look-up: what is there, or the type's zero. -/
theorem MapIs.look (K : Keyed P kT) (ht : P.underlying mT = some (.map kT eT)) (h : MapIs W m kv) (hk : ∀ p ∈ kv, ∃ l, keyOf P kT p.1 = some l) {x z : Value} {lx : Lit} (hx : keyOf P kT x = some lx) (hz : ∀ W, (zeroValue eT).run P W = .ok z W) (ok : Bool) :
    ∃ v b, (Instr.lookup mT (.map (some m)) x ok).run P W = .ok (if ok = true then .tuple #[v, .bool b] else v) W ∧ ((b = true ∧ (x, v) ∈ kv) ∨ (b = false ∧ v = z ∧ ∀ p ∈ kv, p.1 ≠ x)) := by
  obtain ⟨es, clock, hb, rfl, hst⟩ := h
  have hk' : ∀ e ∈ es.toList, ∃ l, keyOf P kT e.key = some l := fun e he => hk (e.key, e.val) (List.mem_map.2 ⟨e, he, rfl⟩)
  have hget : (getObj m).run P W = .ok (.map es clock) W := by simp [getObj, Sem.run, hb]
  rcases K.find W hx es.toList hk' with ⟨hf, hne⟩ | ⟨j, e, hf, hj, hkey⟩
  · refine ⟨z, false, ?_, .inr ⟨rfl, rfl, ?_⟩⟩
    · cases ok <;> simp [Instr.lookup, underlying, ht, hget, K.check W _ hx, hf, hz, Result.andThen]
    · intro p hp
      obtain ⟨e, he, rfl⟩ := List.mem_map.1 hp
      exact hne e he
  · refine ⟨e.val, true, ?_, .inl ⟨rfl, ?_⟩⟩
    · cases ok <;> simp [Instr.lookup, underlying, ht, hget, K.check W _ hx, hf, Result.andThen]
    · exact List.mem_map.2 ⟨e, List.mem_of_getElem? hj, by rw [hkey]⟩
theorem MapIs.there (K : Keyed P kT) (ht : P.underlying mT = some (.map kT eT)) (h : MapIs W m kv) (hk : ∀ p ∈ kv, ∃ l, keyOf P kT p.1 = some l) {x z : Value} {lx : Lit} (hx : keyOf P kT x = some lx) (hz : ∀ W, (zeroValue eT).run P W = .ok z W) {v : Value} (hv : (x, v) ∈ kv) (hu : ∀ v', (x, v') ∈ kv → v' = v) (ok : Bool) :
    (Instr.lookup mT (.map (some m)) x ok).run P W = .ok (if ok = true then .tuple #[v, .bool true] else v) W := by
  obtain ⟨v', b, hr, h1⟩ := h.look K ht hk hx hz ok
  rcases h1 with ⟨rfl, h1⟩ | ⟨rfl, _, h1⟩
  · rw [hr, hu _ h1]
  · exact absurd rfl (h1 _ hv)
theorem MapIs.none (K : Keyed P kT) (ht : P.underlying mT = some (.map kT eT)) (h : MapIs W m kv) (hk : ∀ p ∈ kv, ∃ l, keyOf P kT p.1 = some l) {x z : Value} {lx : Lit} (hx : keyOf P kT x = some lx) (hz : ∀ W, (zeroValue eT).run P W = .ok z W) (hv : ∀ p ∈ kv, p.1 ≠ x) (ok : Bool) :
    (Instr.lookup mT (.map (some m)) x ok).run P W = .ok (if ok = true then .tuple #[z, .bool false] else z) W := by
  obtain ⟨v', b, hr, h1⟩ := h.look K ht hk hx hz ok
  rcases h1 with ⟨rfl, h1⟩ | ⟨rfl, h1, _⟩
  · exact absurd rfl (hv _ h1)
  · rw [hr, h1]
/-- A store at a key that is not there. -/
theorem MapIs.put (K : Keyed P kT) (ht : P.underlying mT = some (.map kT eT)) (h : MapIs W m kv) (hk : ∀ p ∈ kv, ∃ l, keyOf P kT p.1 = some l) {x v : Value} {lx : Lit} (hx : keyOf P kT x = some lx) (hne : ∀ p ∈ kv, p.1 ≠ x) :
    ∃ W', (Instr.mapUpdate mT (.map (some m)) x v).run P W = .ok () W' ∧ MapIs W' m (kv ++ [(x, v)]) ∧ W.grownBy W' (some m) ∧ W'.heap.size = W.heap.size := by
  have hl := h.lt
  obtain ⟨es, clock, hb, rfl, hst⟩ := h
  have hk' : ∀ e ∈ es.toList, ∃ l, keyOf P kT e.key = some l := fun e he => hk (e.key, e.val) (List.mem_map.2 ⟨e, he, rfl⟩)
  have hget : (getObj m).run P W = .ok (.map es clock) W := by simp [getObj, Sem.run, hb]
  have hset : ∀ o, (setObj m o).run P W = .ok () (W.putObj m o) := fun o => by simp [setObj, Sem.run, hb, World.putObj]
  rcases K.find W hx es.toList hk' with ⟨hf, _⟩ | ⟨j, e, hf, hj, hkey⟩
  · refine ⟨W.putObj m (.map (es.push { key := x, val := v, born := clock }) (clock + 1)), ?_, ⟨es.push { key := x, val := v, born := clock }, clock + 1, by simp [World.putObj, hl], by simp, ?_, ?_⟩, grownBy_putObj' W m _, by simp [World.putObj]⟩
    · simp [Instr.mapUpdate, underlying, ht, hget, K.check W _ hx, hf, hset, Result.andThen]
    · intro e he
      rw [Array.toList_push] at he
      rcases List.mem_append.1 he with he | he
      · have := hst.1 e he; omega
      · rw [List.mem_singleton] at he
        subst he
        exact Nat.lt_succ_self _
    · rw [Array.toList_push]
      refine List.pairwise_append.2 ⟨hst.2, by simp, fun a ha b hb => ?_⟩
      rw [List.mem_singleton] at hb
      subst hb
      exact Nat.ne_of_lt (hst.1 a ha)
  · exact absurd hkey (hne (e.key, e.val) (List.mem_map.2 ⟨e, List.mem_of_getElem? hj, rfl⟩))
theorem mem_mod {x v : Value} {l : List MapEntry} {j : Nat} {e : MapEntry} (h : e ∈ l.modify j fun e => { e with key := x, val := v }) : ∃ e3 ∈ l, e.born = e3.born := by
  obtain ⟨i, hi, rfl⟩ := List.mem_iff_getElem.1 h
  rw [List.length_modify] at hi
  rw [List.getElem_modify]
  split
  · exact ⟨l[i], List.getElem_mem hi, rfl⟩
  · exact ⟨l[i], List.getElem_mem hi, rfl⟩
theorem pair_mod {x v : Value} {l : List MapEntry} {j : Nat} (h : l.Pairwise fun a b => a.born ≠ b.born) : (l.modify j fun e => { e with key := x, val := v }).Pairwise fun a b => a.born ≠ b.born := by
  rw [List.pairwise_iff_getElem] at h ⊢
  intro a b ha hb hab
  rw [List.length_modify] at ha hb
  rw [List.getElem_modify, List.getElem_modify]
  have := h a b ha hb hab
  split <;> split <;> exact this
/-- A store at a key that is there: at the place of the pair. -/
theorem MapIs.set (K : Keyed P kT) (ht : P.underlying mT = some (.map kT eT)) {A B : List (Value × Value)} {x u v : Value} (h : MapIs W m (A ++ (x, u) :: B)) (hk : ∀ p ∈ A ++ (x, u) :: B, ∃ l, keyOf P kT p.1 = some l) {lx : Lit} (hx : keyOf P kT x = some lx) (hA : ∀ p ∈ A, p.1 ≠ x) (hB : ∀ p ∈ B, p.1 ≠ x) :
    ∃ W', (Instr.mapUpdate mT (.map (some m)) x v).run P W = .ok () W' ∧ MapIs W' m (A ++ (x, v) :: B) ∧ W.grownBy W' (some m) ∧ W'.heap.size = W.heap.size := by
  have hl := h.lt
  obtain ⟨es, clock, hb, he, hst⟩ := h
  have hk' : ∀ e ∈ es.toList, ∃ l, keyOf P kT e.key = some l := fun e h => hk (e.key, e.val) (by rw [← he]; exact List.mem_map.2 ⟨e, h, rfl⟩)
  have hget : (getObj m).run P W = .ok (.map es clock) W := by simp [getObj, Sem.run, hb]
  have hset : ∀ o, (setObj m o).run P W = .ok () (W.putObj m o) := fun o => by simp [setObj, Sem.run, hb, World.putObj]
  have hlen : es.toList.length = A.length + 1 + B.length := by
    have := congrArg List.length he
    simp only [List.length_map, List.length_append, List.length_cons] at this
    omega
  have hlt : A.length < es.toList.length := by omega
  have hat : (es.toList[A.length].key, es.toList[A.length].val) = (x, u) := by
    have h1 : (es.toList.map fun e => (e.key, e.val))[A.length]? = (A ++ (x, u) :: B)[A.length]? := by rw [he]
    rw [List.getElem?_map, List.getElem?_eq_getElem hlt, List.getElem?_append_right (Nat.le_refl _), Nat.sub_self] at h1
    simpa using h1
  rcases K.find W hx es.toList hk' with ⟨hf, hne⟩ | ⟨j, e, hf, hj, hkey⟩
  · exact absurd (Prod.mk.inj hat).1 (hne _ (List.getElem_mem hlt))
  · have hjl : j = A.length := by
      have h1 : (A ++ (x, u) :: B)[j]? = some (e.key, e.val) := by rw [← he, List.getElem?_map, hj]; rfl
      rw [hkey] at h1
      rcases Nat.lt_trichotomy j A.length with hc | hc | hc
      · rw [List.getElem?_append_left hc] at h1
        exact absurd rfl (hA _ (List.mem_of_getElem? h1))
      · exact hc
      · rw [List.getElem?_append_right (by omega)] at h1
        obtain ⟨k, hk⟩ : ∃ k, j - A.length = k + 1 := ⟨j - A.length - 1, by omega⟩
        rw [hk, List.getElem?_cons_succ] at h1
        exact absurd rfl (hB _ (List.mem_of_getElem? h1))
    subst hjl
    have he0 : e = es.toList[A.length] := by rw [List.getElem?_eq_getElem hlt] at hj; exact (Option.some.inj hj).symm
    have hsz : A.length < es.size := by simpa using hlt
    have hkst : ((es[A.length]?).map (·.key)).getD x = x := by
      rw [Array.getElem?_eq_getElem hsz]
      simp only [Option.map_some, Option.getD_some]
      have : es[A.length] = e := by rw [he0]; simp
      rw [this, hkey]
    refine ⟨W.putObj m (.map (es.modify A.length fun e => { e with key := x, val := v }) clock), ?_, ⟨es.modify A.length (fun e => { e with key := x, val := v }), clock, by simp [World.putObj, hl], ?_, ?_, ?_⟩, grownBy_putObj' W m _, by simp [World.putObj]⟩
    · simp [Instr.mapUpdate, underlying, ht, hget, K.check W _ hx, hf, hset, Result.andThen, hkst, K.stays W hx]
    · apply List.ext_getElem?
      intro i
      rw [List.getElem?_map, Array.toList_modify, List.getElem?_modify]
      have hb2 : (es.toList.map fun e => (e.key, e.val))[i]? = (A ++ (x, u) :: B)[i]? := by rw [he]
      rw [List.getElem?_map] at hb2
      by_cases hi : A.length = i
      · subst hi
        rw [List.getElem?_eq_getElem hlt, List.getElem?_append_right (Nat.le_refl _), Nat.sub_self]
        simp
      · simp only [if_neg hi]
        have e1 : (A ++ (x, v) :: B)[i]? = (A ++ (x, u) :: B)[i]? := by
          rcases Nat.lt_or_ge i A.length with hc | hc
          · rw [List.getElem?_append_left hc, List.getElem?_append_left hc]
          · rw [List.getElem?_append_right hc, List.getElem?_append_right hc]
            obtain ⟨k, hk⟩ : ∃ k, i - A.length = k + 1 := ⟨i - A.length - 1, by omega⟩
            rw [hk, List.getElem?_cons_succ, List.getElem?_cons_succ]
        rw [e1, ← hb2]
        simp
    · intro e2 he2
      rw [Array.toList_modify] at he2
      obtain ⟨e3, h3, h4⟩ := mem_mod he2
      rw [h4]
      exact hst.1 e3 h3
    · rw [Array.toList_modify]
      exact pair_mod hst.2
end
end Go.Proofs.YtlmkbldiicbejaaGreatDoor
end
