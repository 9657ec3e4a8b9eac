/-
  A statement whose order is open, inside a fence: what only computes or reads is taken first, in whatever order; the last operations are walked one behind the other.
-/
import Derived.Test.YtlmkbldiicbejaaGreatDoorPlans
import Derived.OwnWalkIn
namespace Go.Proofs.YtlmkbldiicbejaaGreatDoor
open Go.RowKit

section
variable {S : Addr → Prop} {P : Program} {ops : Array Oper} {md : Region.Mode} {Q : Exit → Act → World → Prop} {pre : Array Bool}
/-- What is listed has all that it waits for listed. -/
def ClosedL (md : Region.Mode) (ops : Array Oper) (listed : Array Bool) : Prop := ∀ j o, ops[j]? = some o → listed.getD j false = true → ∀ e ∈ o.after, Region.binds md e = true → listed.getD e.on false = true
/-- One operation waits for another, be it through others. -/
def waitsB (md : Region.Mode) (ops : Array Oper) : Nat → Nat → Nat → Bool
  | 0, _, _ => false
  | n + 1, j, p => match ops[j]? with
    | none => false
    | some o => o.after.any fun e => Region.binds md e && (e.on == p || waitsB md ops n e.on p)
theorem waits_listed {listed : Array Bool} (hc : ClosedL md ops listed) : ∀ (n j p : Nat) (o : Oper), ops[j]? = some o → (∀ e ∈ o.after, Region.binds md e = true → listed.getD e.on false = true) → waitsB md ops n j p = true → listed.getD p false = true
  | 0, j, p, o, _, _, h => by simp [waitsB] at h
  | n + 1, j, p, o, ho, ha, h => by
    rw [waitsB, ho] at h
    simp only [Array.any_eq_true', Bool.and_eq_true, Bool.or_eq_true, beq_iff_eq] at h
    obtain ⟨e, he, hb, h⟩ := h
    have h1 := ha e he hb
    rcases h with rfl | h
    · exact h1
    · cases hq : ops[e.on]? with
      | none =>
        cases n with
        | zero => simp [waitsB] at h
        | succ n => rw [waitsB, hq] at h; simp at h
      | some o' => exact waits_listed hc n e.on p o' hq (hc e.on o' hq h1) h
theorem ClosedL.set {listed : Array Bool} {j : Nat} (hc : ClosedL md ops listed) (hr : j ∈ Region.ready md ops listed) : ClosedL md ops (listed.setIfInBounds j true) := by
  obtain ⟨hjun, oj, hoj, hall⟩ := mem_ready.1 hr
  have up : ∀ k, listed.getD k false = true → (listed.setIfInBounds j true).getD k false = true := fun k hk => by
    rcases Nat.lt_or_ge k listed.size with h' | h'
    · by_cases hjk : j = k
      · subst hjk; simp [h']
      · simp [h', hjk] at hk ⊢; exact hk
    · simp [Array.getElem?_eq_none h'] at hk
  intro k o hk hl e he hb
  by_cases hjk : j = k
  · subst hjk
    rw [hoj] at hk
    cases hk
    exact up _ (hall e he hb)
  · refine up _ (hc k o hk ?_ e he hb)
    rcases Nat.lt_or_ge k listed.size with h' | h'
    · simp [h', hjk] at hl ⊢; exact hl
    · have h2 : (listed.setIfInBounds j true)[k]? = none := Array.getElem?_eq_none (by simpa using h')
      simp [h2] at hl
def anyT (S : Addr → Prop) (P : Program) (md : Region.Mode) (ops : Array Oper) (Q : Exit → Act → World → Prop) (pre : Array Bool) : Nat → Array Bool → Act → World → Prop
  | 0, listed, a, w => ((∀ j, pre.getD j false = true → listed.getD j true = true) ∧ listed = pre) ∧ ∀ w', Ext w w' → Q .normal a w'
  | n + 1, listed, a, w => ∀ w', Ext w w' → Region.ready md ops listed ≠ [] ∧
      ∀ i ∈ Region.ready md ops listed, wpOp P ops Q i (fun a' w'' => EOn S w' w'' ∧ anyT S P md ops Q pre n (listed.setIfInBounds i true) a' w'') a w'
theorem anyT_ext {w w2 : World} (hx : Ext w w2) (n : Nat) (l : Array Bool) (a : Act) (h : anyT S P md ops Q pre n l a w) : anyT S P md ops Q pre n l a w2 := by
  cases n with
  | zero => exact ⟨h.1, fun w' h' => h.2 w' (hx.trans h')⟩
  | succ n => exact fun w' h' => h w' (hx.trans h')
theorem anyT_first {i : Nat} {oi : Oper} {v : Value} (hi : ops[i]? = some oi) (hsel : ∀ (j : Nat) (o : Oper) cs b, ops[j]? = some o → o.op ≠ .select cs b)
    (hQ : ∀ c a w, ¬ Q (.panic c) a w) (hpre : pre.getD i false = true)
    (htail : ∀ j oj, ops[j]? = some oj → pre.getD j false = false → ∀ p, pre.getD p false = true → waitsB md ops ops.size j p = true) :
    ∀ (n : Nat) (listed : Array Bool) (a : Act) (w : World), ClosedL md ops listed →
      (∀ j oj, ops[j]? = some oj → j ≠ i → listed.getD j true = false → (∀ e ∈ oj.after, Region.binds md e = true → e.on ≠ i) → oi.apart ops oj = true) →
      i ∈ Region.ready md ops listed → GivesG S P ops oi v a w →
      anyT S P md ops Q pre n (listed.setIfInBounds i true) (a.put oi.dst v) w → anyT S P md ops Q pre (n + 1) listed a w := by
  intro n
  induction n with
  | zero =>
    intro listed a w hcl _ hr hy H w' hx
    refine ⟨fun h => (by rw [h] at hr; cases hr), fun j hj => ?_⟩
    by_cases hji : j = i
    · subst hji; exact hy.wpOp hi (EOn.of_ext hx) fun w'' h'' => ⟨EOn.of_ext h'', anyT_ext (hx.trans h'') 0 _ _ H⟩
    · obtain ⟨hjun, oj, hoj, hall⟩ := mem_ready.1 hj
      exfalso
      by_cases hp : pre.getD j false = true
      · have := H.1.1 j hp
        rw [getD_set_ne true (Ne.symm hji), hjun] at this
        cases this
      · have h1 := waits_listed hcl _ j i oj hoj hall (htail j oj hoj (by simpa using hp) i hpre)
        have g0 := (mem_ready.1 hr).1
        rcases Nat.lt_or_ge i listed.size with h' | h'
        · simp [h'] at g0 h1; rw [g0] at h1; cases h1
        · simp [Array.getElem?_eq_none h'] at h1
  | succ n ih =>
    intro listed a w hcl hfree hr hy H w' hx
    refine ⟨fun h => (by rw [h] at hr; cases hr), fun j hj => ?_⟩
    by_cases hji : j = i
    · subst hji; exact hy.wpOp hi (EOn.of_ext hx) fun w'' h'' => ⟨EOn.of_ext h'', anyT_ext (hx.trans h'') (n + 1) _ _ H⟩
    · have h1 := (H w' hx).2 j (ready_mono hj hji)
      obtain ⟨hjun, oj, hoj, hall⟩ := mem_ready.1 hj
      have hnot : ∀ e ∈ oj.after, Region.binds md e = true → e.on ≠ i := fun e he hb heq => by
        have g1 := hall e he hb
        have g0 := (mem_ready.1 hr).1
        rw [heq] at g1
        rcases Nat.lt_or_ge i listed.size with h' | h'
        · simp [h'] at g0 g1; rw [g0] at g1; cases g1
        · simp [Array.getElem?_eq_none h'] at g1
      have hap := hfree j oj hoj hji hjun hnot
      have h2 := wpOp_putIf (S := fun _ => False) hoj hap (fun cs b => hsel i oi cs b hi) (fun cs b => hsel j oj cs b hoj) (fun c a w h => absurd h (hQ c _ w))
        (by
          rcases hy with ⟨g1, _⟩ | ⟨g1, g2⟩
          · exact .inl ⟨g1, fun _ hf => hf.elim⟩
          · exact .inr ⟨g1, g2⟩) h1
      have h3 := wpOp_sees (oi := oi) hoj (Oper.apart_spec hap).2.2 (fun cs b => hsel i oi cs b hi) h2
      refine wpOp_mono (fun a' w'' h4 => ?_) h3
      obtain ⟨⟨e1, e2⟩, _, hx2, hK⟩ := h4
      refine ⟨hx2, ih (listed.setIfInBounds j true) a' w'' (hcl.set hj) (fun k ok hk hki hun hno => ?_) (ready_mono hr (Ne.symm hji)) ((hy.same e1 e2).ext ((EOn.of_ext hx).trans hx2)) (by rw [Array.setIfInBounds_comm _ _ hji]; exact hK)⟩
      refine hfree k ok hk hki ?_ hno
      by_cases hjk : j = k
      · subst hjk; exact hjun
      · rw [getD_set_ne true hjk] at hun; exact hun


/-- What is taken first stands ready, and no other has part in it. -/
def planU (md : Region.Mode) (ops : Array Oper) (pre : Array Bool) : List Bool → List Nat → Array Bool → Bool
  | true :: bs, i :: rest, listed => (ops[i]?).isSome && pre.getD i false && (Region.ready md ops listed).contains i && Region.free md ops listed i && planU md ops pre bs rest (listed.setIfInBounds i true)
  | [], [], listed => ((List.range pre.size).all fun j => !pre.getD j false || listed.getD j true) && decide (listed = pre)
  | _, _, _ => false
/-- The last operations wait for all the first. -/
def tailV (md : Region.Mode) (ops : Array Oper) (pre : Array Bool) : Bool :=
  (List.range ops.size).all fun j => pre.getD j false || (List.range pre.size).all fun p => !pre.getD p false || waitsB md ops ops.size j p
theorem tailV_spec (h : tailV md ops pre = true) (j : Nat) (oj : Oper) (hj : ops[j]? = some oj) (hp : pre.getD j false = false) (p : Nat) (hpp : pre.getD p false = true) : waitsB md ops ops.size j p = true := by
  simp only [tailV, List.all_eq_true, List.mem_range, Bool.or_eq_true] at h
  have h1 := (h j (Array.getElem?_eq_some_iff.1 hj).1).resolve_left (by simp [hp])
  have hlt : p < pre.size := by
    rcases Nat.lt_or_ge p pre.size with g | g
    · exact g
    · simp [Array.getElem?_eq_none g] at hpp
  exact (h1 p hlt).resolve_left (by simp [hpp])
theorem anyT_plan (hs : Region.noSelect ops = true) (ht : tailV md ops pre = true) : ∀ (bs : List Bool) (l : List Nat) (listed : Array Bool) (a : Act) (w : World), ClosedL md ops listed → planU md ops pre bs l listed = true →
    wpG S P ops Q bs (l.map fun i => ops.getD i default) a w → anyT S P md ops (gQ Q) pre bs.length listed a w
  | [], [], listed, a, w, _, hp, h => by
    simp only [planU, Bool.and_eq_true, decide_eq_true_eq] at hp
    refine ⟨⟨fun j hj => ?_, hp.2⟩, fun w' hx => h w' hx⟩
    have hlt : j < pre.size := by
      rcases Nat.lt_or_ge j pre.size with g | g
      · exact g
      · simp [Array.getElem?_eq_none g] at hj
    have := List.all_eq_true.1 hp.1 j (List.mem_range.2 hlt)
    rw [hj] at this
    simpa using this
  | true :: bs, i :: rest, listed, a, w, hcl, hB, h => by
    simp only [planU, Bool.and_eq_true] at hB
    obtain ⟨⟨⟨⟨hi, hpi⟩, hr⟩, hf⟩, hB'⟩ := hB
    obtain ⟨o, ho⟩ := Option.isSome_iff_exists.1 hi
    obtain ⟨v, hy, hK⟩ := h
    have e : ops.getD i default = o := by simp [ho]
    simp only [e] at hy hK
    exact anyT_first ho (Region.noSelect_spec hs) (fun c a w h => h) hpi (tailV_spec ht) bs.length listed a w hcl (Region.free_spec ho hf) (by simpa using hr) hy (anyT_plan hs ht bs rest _ _ _ (hcl.set (by simpa using hr)) hB' hK)
  | true :: _, [], _, _, _, _, hB, _ => by simp [planU] at hB
  | false :: _, _, _, _, _, _, hB, _ => by simp [planU] at hB
  | [], _ :: _, _, _, _, _, hB, _ => by simp [planU] at hB
/-- A fence that lets all by. -/
structure WideF (F : Fence) : Prop where
  fn : ∀ f, F.fn f
  dep : F.depth.isSome = true → False
  calls : ∀ {n : Nat} {P : Program} {f : FuncId} {args : Array Value} {w : World} {R : Ending → World → Prop}, Calls P f args w R → CallsIn F n P f args w R
  rows : ∀ {n : Nat} {P : Program} {row : String} {args : Array Value} {w : World} {R : Value → World → Prop}, Rows P row args w R → RowsIn F n P row args w R
theorem wideF : WideF Fence.wide := ⟨fun _ => trivial, fun h => (by cases h), fun h => callsIn_wide.2 h, fun h c cs _ => let ⟨v, w', r, s⟩ := h c cs; ⟨v, w', r, stepsIn_wide.2 s⟩⟩
theorem wideFR (l : Nat) : WideF (Fence.wide.inRound l) := ⟨fun _ => trivial, fun h => (by cases h), fun h => CallsIn.inRound l (callsIn_wide.2 h), fun h => rows_wide h⟩
theorem oper_wide {F : Fence} (hF : WideF F) {n : Nat} {o : Oper} {a : Act} {w : World} {K : Act → World → Prop} {Q Q' : Exit → Act → World → Prop} (hd : ∀ c, o.op ≠ .defer c) (hQ : ∀ e a w, e ≠ .normal → ¬ Q e a w) (h : o.wp P a w K Q) : o.wpIn F n P a w K Q' := by
  refine ⟨fun _ _ => hF.fn _, ?_⟩
  rw [Oper.semAt_eq _ _ _ hd]
  unfold Oper.wp at h
  generalize (execOp a.eval o).run P w = r at *
  cases r with
  | ok x w' =>
    cases x with
    | value v => exact h
    | skip => exact h
    | defer d => exact h
    | enter f args =>
      refine ⟨fun h => (hF.dep h).elim, hF.calls (Calls.mono h ?_)⟩
      intro e w2 he
      cases e with
      | returned v => exact he
      | panicked c => exact absurd he (hQ _ _ _ (by simp))
      | outgrown => obtain ⟨a', w3, h3⟩ := he; exact absurd h3 (hQ _ _ _ (by simp))
    | row row args => exact ⟨fun h => (hF.dep h).elim, hF.rows h⟩
    | _ => exact h.elim
  | halt x w' => cases x <;> first | exact absurd h (hQ _ _ _ (by simp)) | exact h.elim
/-- The last operations: each stands alone. -/
def tailU (md : Region.Mode) (ops : Array Oper) : List Nat → Array Bool → Bool
  | i :: rest, listed => (ops[i]?).isSome && Region.ready md ops listed == [i] && tailU md ops rest (listed.setIfInBounds i true)
  | [], listed => (Region.ready md ops listed).isEmpty
theorem wpAnyIn_tail {F : Fence} {n : Nat} : ∀ (l : List Nat) (listed : Array Bool) (a : Act) (w : World), tailU md ops l listed = true → wpListIn F n P ops Q (l.map fun i => ops.getD i default) a w → wpAnyIn F n P md ops Q l.length listed a w
  | [], listed, a, w, hB, h => ⟨by simpa [tailU] using hB, h⟩
  | i :: rest, listed, a, w, hB, h => by
    simp only [tailU, Bool.and_eq_true, beq_iff_eq] at hB
    obtain ⟨⟨hi, hr⟩, hB'⟩ := hB
    obtain ⟨o, ho⟩ := Option.isSome_iff_exists.1 hi
    have e : ops.getD i default = o := by simp [ho]
    refine ⟨fun he => (by rw [hr] at he; cases he), fun j hj => ?_⟩
    rw [hr] at hj
    obtain rfl : j = i := by simpa using hj
    simp only [List.map_cons, e] at h
    unfold wpOpIn
    unfold wpListIn at h
    simp only [ho]
    by_cases hw : Region.wanted o (yielded ops a.tmps) = true
    · simp only [hw, if_true] at h ⊢
      exact Oper.wpIn_mono (fun a' w' h' => wpAnyIn_tail rest _ a' w' hB' h') h
    · simp only [hw] at h ⊢
      exact ⟨h.1, wpAnyIn_tail rest _ _ _ hB' h.2⟩
theorem wpAnyIn_of_anyT {F : Fence} (hF : WideF F) {n' m : Nat} {Q' : Exit → Act → World → Prop} (hd : ∀ (i : Nat) (o : Oper), ops[i]? = some o → ∀ c, o.op ≠ .defer c)
    (hQ : ∀ e a w, e ≠ .normal → ¬ Q e a w) (hT : ∀ a w, Q .normal a w → wpAnyIn F n' P md ops Q' m pre a w) :
    ∀ (n : Nat) (listed : Array Bool) (a : Act) (w : World), anyT S P md ops Q pre n listed a w → wpAnyIn F n' P md ops Q' (n + m) listed a w
  | 0, listed, a, w, h => by
    rw [Nat.zero_add]
    rw [h.1.2]
    exact hT a w (h.2 w (Ext.refl w))
  | n + 1, listed, a, w, h => by
    rw [show n + 1 + m = n + m + 1 from by omega]
    obtain ⟨h1, h2⟩ := h w (Ext.refl w)
    refine ⟨fun he => absurd he h1, fun i hi => ?_⟩
    have h3 := h2 i hi
    unfold wpOp at h3
    unfold wpOpIn
    cases ho : ops[i]? with
    | none => simp only [ho] at h3 ⊢; exact wpAnyIn_of_anyT hF hd hQ hT n _ _ _ h3.2
    | some o =>
      simp only [ho] at h3 ⊢
      by_cases hw : Region.wanted o (yielded ops a.tmps) = true
      · simp only [hw, if_true] at h3 ⊢
        rcases h3 with h3 | ⟨_, a', w', h3⟩
        · exact oper_wide hF (hd i o ho) hQ (Oper.wp_mono (fun a w h => wpAnyIn_of_anyT hF hd hQ hT n _ _ _ h.2) h3)
        · exact absurd h3 (hQ _ _ _ (by simp))
      · simp only [hw] at h3 ⊢
        exact ⟨fun _ _ => hF.fn _, wpAnyIn_of_anyT hF hd hQ hT n _ _ _ h3.2⟩
def checkU (l : List Oper) (bs : List Bool) (k : Nat) : Bool :=
  Region.noSelect l.toArray && (bs.length == k && (decide (k ≤ l.length) && (planU .any l.toArray (preOf l.length bs (List.range l.length)) bs (List.range k) (Array.replicate l.length false) &&
    (tailV .any l.toArray (preOf l.length bs (List.range l.length)) && (tailU .any l.toArray (List.range' k (l.length - k)) (preOf l.length bs (List.range l.length)) && l.all fun o => !isDefer o.op)))))
/-- **A statement whose order is open, inside a fence: what is taken first; the rest, walked one behind the other.** -/
theorem wpIn_first (S : Addr → Prop) {F : Fence} (hF : WideF F) {n id : Nat} {Q : Exit → Act → World → Prop} {a : Act} {w : World} {ol : List Oper} (bs : List Bool) (k : Nat) (hm : P.follows .mixedOrders = true)
    (hB : checkU ol bs k = true) {l1 l2 : List Oper} (h1 : ol.take k = l1) (h2 : ol.drop k = l2)
    (h : wpG S P ol.toArray (fun e a w => e = .normal ∧ wpListIn F n P ol.toArray Q l2 a w) bs l1 a w) : (Code.region id ol.toArray true).wpIn F n P Q a w := by
  subst h1 h2
  simp only [checkU, Bool.and_eq_true, beq_iff_eq, decide_eq_true_eq] at hB
  obtain ⟨hs, hk, hkl, hp, ht, htl, hd⟩ := hB
  refine wpIn_region_any hm ?_
  have e1 : (List.range k).map (fun i => ol.toArray.getD i default) = ol.take k := by
    apply List.ext_getElem
    · simp; omega
    · intro i h1 h2
      simp at h1 h2
      have : i < ol.length := by omega
      simp [this]
  have e2 : (List.range' k (ol.length - k)).map (fun i => ol.toArray.getD i default) = ol.drop k := by
    apply List.ext_getElem
    · simp
    · intro i h1 h2
      simp at h1 h2
      have : k + i < ol.length := by omega
      simp [this]
  rw [← e1] at h
  have h3 := anyT_plan (md := .any) hs ht bs (List.range k) (Array.replicate ol.length false) a w (fun j o hj hl => by rcases Nat.lt_or_ge j ol.length with g | g <;> simp [g] at hl) hp h
  have hdf : ∀ (i : Nat) (o : Oper), ol.toArray[i]? = some o → ∀ c, o.op ≠ .defer c := fun i o ho c hc => by
    have hm : o ∈ ol := List.mem_of_getElem? (by simpa using ho)
    have := List.all_eq_true.1 hd o hm
    rw [hc] at this
    simp [isDefer] at this
  have hq2 : ∀ (e : Exit) (a : Act) (w : World), e ≠ .normal → ¬ gQ (fun e a w => e = .normal ∧ wpListIn F n P ol.toArray Q (ol.drop k) a w) e a w := fun e a w he hq => by
    cases e <;> first | exact he rfl | exact hq.elim | exact he hq.1
  have h4 := wpAnyIn_of_anyT hF (n' := n) (m := ol.length - k) (Q' := Q) hdf hq2 (fun a w hq => by
      have := wpAnyIn_tail (md := .any) _ _ a w htl (by rw [e2]; exact hq.2)
      rwa [List.length_range'] at this) bs.length (Array.replicate ol.length false) a { w with drawn := w.drawn + 1 } (anyT_ext (Ext.drew (Ext.refl w)) _ _ _ h3)
  rw [show bs.length + (ol.length - k) = ol.length from by omega] at h4
  simpa using h4
end
end Go.Proofs.YtlmkbldiicbejaaGreatDoor
