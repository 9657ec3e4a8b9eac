/-
 A statement whose order is open, in the body of a loop over an iterator.
-/
import Derived.Test.YtokeamebcdhnpaaGreatDoorPlans
import Derived.RangeFuncCalls
import Derived.OrdersIn
namespace Go.Proofs.YtokeamebcdhnpaaGreatDoor
open Go.RowKit

variable {P : Program}
theorem rows_wide {n l : Nat} {row : String} {args : Array Value} {w : World} {R : Value → World → Prop} (h : Rows P row args w R) : RowsIn (Fence.wide.inRound l) n P row args w R :=
 fun c cs _ => let ⟨v, w', r, s⟩ := h c cs; ⟨v, w', r, by rw [fenced_inRound]; exact stepsIn_wide.2 s⟩
/-- An operation walked anywhere is walked in a round. -/
theorem oper_round {n l : Nat} {o : Oper} {a : Act} {w : World} {K : Act → World → Prop} {Q Q' : Exit → Act → World → Prop} (hd : ∀ c, o.op ≠ .defer c) (hQ : ∀ e a w, e ≠ .normal → ¬ Q e a w) (h : o.wp P a w K Q) : o.wpIn (Fence.wide.inRound l) n P a w K Q' := by
 refine ⟨fun _ _ => trivial, ?_⟩
 rw [Oper.semAt_eq _ _ _ hd]
 unfold Oper.wp at h
 generalize (execOp a.eval o).run P w = r at *
 cases r with
 | ok x w' =>
  cases x with
  | value v => exact h
  | skip => exact h
  | defer d => exact h
  | enter f args =>
   refine ⟨(fun h => by cases h), CallsIn.inRound l (callsIn_wide.2 (Calls.mono h ?_))⟩
   intro e w2 he
   cases e with
   | returned v => exact he
   | panicked c => exact absurd he (hQ _ _ _ (by simp))
   | outgrown => obtain ⟨a', w3, h3⟩ := he; exact absurd h3 (hQ _ _ _ (by simp))
  | row row args => exact ⟨(fun h => by cases h), rows_wide h⟩
  | _ => exact h.elim
 | halt x w' => cases x <;> first | exact absurd h (hQ _ _ _ (by simp)) | exact h.elim
theorem any_round {n' l : Nat} {md : Region.Mode} {ops : Array Oper} {Q Q' : Exit → Act → World → Prop} (hd : ∀ (i : Nat) (o : Oper), ops[i]? = some o → ∀ c, o.op ≠ .defer c) (hQ : ∀ e a w, e ≠ .normal → ¬ Q e a w) (hQ' : ∀ a w, Q .normal a w → Q' .normal a w) :
  ∀ (n : Nat) (listed : Array Bool) (a : Act) (w : World), wpAny P md ops Q n listed a w → wpAnyIn (Fence.wide.inRound l) n' P md ops Q' n listed a w
 | 0, _, _, _, h => ⟨h.1, hQ' _ _ h.2⟩
 | n + 1, listed, a, w, h => by
  refine ⟨fun e => hQ' _ _ (h.1 e), fun i hi => ?_⟩
  have h2 := h.2 i hi
  unfold wpOp at h2
  unfold wpOpIn
  cases ho : ops[i]? with
  | none => simp only [ho] at h2 ⊢; exact any_round hd hQ hQ' n _ _ _ h2
  | some o =>
   simp only [ho] at h2 ⊢
   by_cases hw : Region.wanted o (yielded ops a.tmps) = true
   ·simp only [hw, if_true] at h2 ⊢
    rcases h2 with h2 | ⟨_, a', w', h3⟩
    ·exact oper_round (hd i o ho) hQ (Oper.wp_mono (fun a w h => any_round hd hQ hQ' n _ _ _ h) h2)
    ·exact absurd h3 (hQ _ _ _ (by simp))
   ·simp only [hw] at h2 ⊢
    exact ⟨fun _ _ => trivial, any_round hd hQ hQ' n _ _ _ h2⟩
def isDefer : Op → Bool
 | .defer _ => true
 | _ => false
/-- The walk in a chosen order, in a round. -/
theorem wpIn_plan (S : Addr → Prop) {n l id : Nat} {Q : Exit → Act → World → Prop} {a : Act} {w : World} {ol : List Oper} (order : List Nat) (bs : List Bool) (hm : P.follows .mixedOrders = true) (hnd : (ol.all fun o => !isDefer o.op) = true)
  (hB : checkB ol bs order = true) {l' : List Oper} (hl' : order.map (fun i => ol.toArray.getD i default) = l')
  (h : wpG S P ol.toArray (fun e a w => e = .normal ∧ Q .normal a w) bs l' a w) : (Code.region id ol.toArray true).wpIn (Fence.wide.inRound l) n P Q a w := by
 subst hl'
 simp only [checkB, Bool.and_eq_true, beq_iff_eq, decide_eq_true_eq] at hB
 obtain ⟨hs, hl, hbs, hp, hpr, ht⟩ := hB
 refine wpIn_region_any hm ?_
 have := anyG_plan (m := order.length - bs.length) (md := .any) hs ht bs order (Array.replicate ol.length false) a w hp hpr (by omega) h
 have := wpAny_of_anyG _ _ _ _ (anyG_ext (Ext.drew (Ext.refl w)) _ _ _ this)
 rw [show bs.length + (order.length - bs.length) = ol.length from by omega] at this
 refine any_round (fun i o ho c hc => ?_) (fun e a w he hq => ?_) (fun a w hq => (show _ ∧ _ from hq).2) _ _ _ _ (by simpa using this)
 ·have hm : o ∈ ol := List.mem_of_getElem? (by simpa using ho)
  have := List.all_eq_true.1 hnd o hm
  rw [hc] at this
  simp [isDefer] at this
 ·cases e <;> first | exact he rfl | exact hq.elim | exact he hq.1
theorem wpIn_lex (S : Addr → Prop) {n l id : Nat} {Q : Exit → Act → World → Prop} {a : Act} {w : World} {ol : List Oper} (bs : List Bool) (hm : P.follows .mixedOrders = true) (hnd : (ol.all fun o => !isDefer o.op) = true)
  (hB : checkB ol bs (List.range ol.length) = true) (h : wpG S P ol.toArray (fun e a w => e = .normal ∧ Q .normal a w) bs ol a w) : (Code.region id ol.toArray true).wpIn (Fence.wide.inRound l) n P Q a w :=
 wpIn_plan S _ bs hm hnd hB (lex_map ol) h
/-- One operation alone, as a list of one. -/
theorem wp_alone {ops : Array Oper} {o : Oper} {a : Act} {w : World} {K : Act → World → Prop} {Q : Exit → Act → World → Prop} (hw : Region.wanted o (yielded ops a.tmps) = true) (hQ : ∀ a w, ¬ Q .outgrown a w)
  (h : wpList P ops (fun e a w => match e with | .normal => K a w | e => Q e a w) [o] a w) : o.wp P a w K Q := by
 unfold wpList at h
 simp only [hw, if_true] at h
 rcases h with h | ⟨_, a', w', h⟩
 ·unfold Oper.wp at *
  generalize (execOp a.eval o).run P w = r at *
  cases r with
  | ok x w' =>
   cases x with
   | enter f args =>
    refine Calls.mono h fun e w2 he => ?_
    cases e with
    | returned v => exact he
    | panicked c => exact he
    | outgrown => obtain ⟨a', w3, h3⟩ := he; exact absurd h3 (hQ _ _)
   | value v => exact h
   | skip => exact h
   | defer d => exact h
   | row row args => exact h
   | _ => exact h
  | halt x w' => cases x <;> exact h
 ·exact absurd h (hQ _ _)
/-- The walk in a chosen order; it ends in no other way. -/
theorem wp_lexN (S : Addr → Prop) {id : Nat} {Q : Exit → Act → World → Prop} {a : Act} {w : World} {ol : List Oper} (bs : List Bool) (hm : P.follows .mixedOrders = true)
  (hB : checkB ol bs (List.range ol.length) = true) (h : wpG S P ol.toArray (fun e a w => e = .normal ∧ Q .normal a w) bs ol a w) : (Code.region id ol.toArray true).wp P Q a w :=
 wp_mono (wp_lex S bs hm hB h) fun e a w hq => by obtain ⟨rfl, h⟩ := hq; exact h
end Go.Proofs.YtokeamebcdhnpaaGreatDoor
