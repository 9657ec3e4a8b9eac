/-
  Two nodes of which one may be deeper by two.
-/
import Derived.Test.YtohpekbooapcjaaDoorWalkE
namespace Go.Proofs.YtohpekbooapcjaaDoor
open Go.RowKit Go.Rp

@[go_sem] theorem ta_branch (p : Option Addr) (w : World) : (Instr.typeAssert (.iface 94 (.pointer p)) 61 94 false).run Tryd.prog w = .ok (.pointer p) w := by kernel_rfl
@[go_sem] theorem ta_leaf (s : ByteArray) (w : World) : (Instr.typeAssert (.iface 92 (.string s)) 61 92 true).run Tryd.prog w = .ok (.tuple #[.string s, .bool true]) w := by kernel_rfl
@[go_sem] theorem ta_no (p : Option Addr) (w : World) : (Instr.typeAssert (.iface 94 (.pointer p)) 61 92 true).run Tryd.prog w = .ok (.tuple #[.string ⟨#[]⟩, .bool false]) w := by kernel_rfl
/-- The cells of a branch. -/
def brA (va vb : Value) (a b : T) : Array Value := #[va, vb, .int .i64 ((a.text ++ b.text).size : Nat), .int .i64 (nRunes (a.text ++ b.text) : Nat), .int .i64 (nUnits (a.text ++ b.text) : Nat), .int .i64 (nBreaks (a.text ++ b.text) : Nat), .string (hdB (a.text ++ b.text)), .string (tlB (a.text ++ b.text)), .int .i64 ((max a.deep b.deep + 1 : Nat))]
theorem IsNode.inv_br {w : World} {v : Value} {t : T} (hn : IsNode w v t) (h : 2 ≤ t.deep) : ∃ blk va vb a b, v = .iface 94 (.pointer (some ⟨blk, 0, none⟩)) ∧ t = .br a b ∧ IsNode w va a ∧ IsNode w vb b ∧ a.deep ≤ b.deep + 1 ∧ b.deep ≤ a.deep + 1 ∧ w.heap[blk]? = some (.cells (brA va vb a b) 96 (0, 0)) := by
  cases hn with
  | leaf s h1 h2 => simp [T.deep] at h
  | br blk va vb a b ha hb hd hc => exact ⟨blk, va, vb, a, b, rfl, rfl, ha, hb, hd.1, hd.2, hc⟩
/-- What 'balanced' and 'join' hand back. -/
def Joined (w : World) (ta tb : T) (e : Ending) (w' : World) : Prop :=
  ∃ v t, e = .returned v ∧ IsNode w' v t ∧ t.text = ta.text ++ tb.text ∧ max ta.deep tb.deep ≤ t.deep ∧ t.deep ≤ max ta.deep tb.deep + 1 ∧ Ext w w'

set_option maxRecDepth 100000 in
set_option maxHeartbeats 2000000 in
theorem bal_1 (blk : Nat) (vx vy vb : Value) (x y tb : T) (w : World) (hX : IsNode w vx x) (hY : IsNode w vy y) (hB : IsNode w vb tb)
    (hc : w.heap[blk]? = some (.cells (brA vx vy x y) 96 (0, 0))) (h1 : x.deep = tb.deep + 1) (h2 : y.deep ≤ x.deep) (h3 : tb.deep ≤ y.deep)
    (hs : x.text.size + y.text.size + tb.text.size ≤ 1099511627776) (hp : tb.deep ≤ 900) :
    Calls Tryd.prog 61 #[.iface 94 (.pointer (some ⟨blk, 0, none⟩)), vb] w (Joined w (.br x y) tb) := by
  have hA : IsNode w (.iface 94 (.pointer (some ⟨blk, 0, none⟩))) (.br x y) := .br _ _ _ _ _ hX hY (by omega) hc
  have hAd : tb.deep + 1 < (T.br x y).deep ∧ (T.br x y).deep ≤ tb.deep + 2 := by simp only [T.deep]; omega
  obtain ⟨g1, g2⟩ := hAd
  have qA : ∀ w', Ext w w' → ∀ i, w'.cell? ⟨blk, i, none⟩ = _ := fun w' h i => cell_blk (h.blk hc) i
  unfold brA at qA
  obtain ⟨Tx, xx, rfl⟩ := hX.iface
  obtain ⟨Ty, xy, rfl⟩ := hY.iface
  obtain ⟨Tb, xb, rfl⟩ := hB.iface
  have H1 := Lib.hid h1
  have hlo : x.deep ≤ tb.deep + 1 := by omega
  have hhi : tb.deep + 1 ≤ x.deep := by omega
  clear h1
  go_enter Tryd.func61, Tryd.ntmps61
  go_wp2_with (first
    | (refine upon_depth hA ?_; go_simp)
    | (refine upon_depth hB ?_; go_simp))
  refine wp_lex [true, true, true, true, true, true, true, true, true, true, true] (by kernel_rfl) (by kernel_rfl) ?_
  repeat first
    | refine wpG_move (by rfl) (by simp only [Act.eval, Array.getD_eq_getD_getElem?, List.getElem?_toArray, List.getElem?_cons_succ, List.getElem?_cons_zero, Option.getD_some]; try rfl) (by simp only [Act.put, List.setIfInBounds_toArray, List.set_cons_succ, List.set_cons_zero]; rfl) ?_
    | refine wpG_assign (by rfl) (by simp only [Act.eval, Array.getD_eq_getD_getElem?, List.getElem?_toArray, List.getElem?_cons_succ, List.getElem?_cons_zero, Option.getD_some]; try rfl) (by simp only [Act.put, List.setIfInBounds_toArray, List.set_cons_succ, List.set_cons_zero]; rfl) ?_
    | refine wpG_depth (by simp only [Act.eval, Array.getD_eq_getD_getElem?, List.getElem?_toArray, List.getElem?_cons_succ, List.getElem?_cons_zero, Option.getD_some]; try rfl) (by assumption) (by simp only [Act.put, List.setIfInBounds_toArray, List.set_cons_succ, List.set_cons_zero]; rfl) ?_
    | refine wpG_val (by rfl) (fun w' hx => (by go_simp; first | (go_bits; first | exact rfl | exact ⟨by omega, rfl⟩) | exact rfl | exact (if_neg (by omega)).trans rfl | exact ⟨by omega, rfl⟩)) (by simp only [Act.put, List.setIfInBounds_toArray, List.set_cons_succ, List.set_cons_zero]; rfl) ?_
    | refine wpG_no (by rfl) (by simp only [Act.put, List.setIfInBounds_toArray, List.set_cons_succ, List.set_cons_zero]; rfl) ?_
  refine wpG_end (fun w1 hx1 => wpList_nil (gQ_normal ?_))
  go_wp2_with fail
  have qA : ∀ w', Ext w1 w' → ∀ i, w'.cell? ⟨blk, i, none⟩ = _ := fun w' h i => cell_blk ((hx1.trans h).blk hc) i
  unfold brA at qA
  refine wp_lex [true, true, true, true, true, true, true, true, true, false, true, false, true, true] (by kernel_rfl) (by kernel_rfl) ?_
  repeat first
    | refine wpG_move (by rfl) (by simp only [Act.eval, Array.getD_eq_getD_getElem?, List.getElem?_toArray, List.getElem?_cons_succ, List.getElem?_cons_zero, Option.getD_some]; try rfl) (by simp only [Act.put, List.setIfInBounds_toArray, List.set_cons_succ, List.set_cons_zero]; rfl) ?_
    | refine wpG_assign (by rfl) (by simp only [Act.eval, Array.getD_eq_getD_getElem?, List.getElem?_toArray, List.getElem?_cons_succ, List.getElem?_cons_zero, Option.getD_some]; try rfl) (by simp only [Act.put, List.setIfInBounds_toArray, List.set_cons_succ, List.set_cons_zero]; rfl) ?_
    | refine wpG_val (by rfl) (fun w' hx => (by go_simp; first | (go_bits; first | exact rfl | exact ⟨by omega, rfl⟩) | exact rfl | exact (if_neg (by omega)).trans rfl | exact ⟨by omega, rfl⟩)) (by simp only [Act.put, List.setIfInBounds_toArray, List.set_cons_succ, List.set_cons_zero]; rfl) ?_
    | refine wpG_no (by rfl) (by simp only [Act.put, List.setIfInBounds_toArray, List.set_cons_succ, List.set_cons_zero]; rfl) ?_
  refine wpG_do (by rfl) (fun w2 hx2 K hK => ?_)
  go_wp2_with (go_at_call 62; refine (c_two _ _ y tb _ (hY.mono (hx1.trans hx2)) (hB.mono (hx1.trans hx2)) (by omega) (by omega) (by omega) (by omega)).mono ?_; rintro e w3 ⟨b1, rfl, hn1, hx3⟩)
  refine ⟨hx3, ?_⟩
  repeat first
    | refine wpG_move (by rfl) (by simp only [Act.eval, Array.getD_eq_getD_getElem?, List.getElem?_toArray, List.getElem?_cons_succ, List.getElem?_cons_zero, Option.getD_some]; try rfl) (by simp only [Act.put, List.setIfInBounds_toArray, List.set_cons_succ, List.set_cons_zero]; rfl) ?_
    | refine wpG_assign (by rfl) (by simp only [Act.eval, Array.getD_eq_getD_getElem?, List.getElem?_toArray, List.getElem?_cons_succ, List.getElem?_cons_zero, Option.getD_some]; try rfl) (by simp only [Act.put, List.setIfInBounds_toArray, List.set_cons_succ, List.set_cons_zero]; rfl) ?_
    | refine wpG_val (by rfl) (fun w' hx => (by go_simp; first | (go_bits; first | exact rfl | exact ⟨by omega, rfl⟩) | exact rfl | exact (if_neg (by omega)).trans rfl | exact ⟨by omega, rfl⟩)) (by simp only [Act.put, List.setIfInBounds_toArray, List.set_cons_succ, List.set_cons_zero]; rfl) ?_
    | refine wpG_no (by rfl) (by simp only [Act.put, List.setIfInBounds_toArray, List.set_cons_succ, List.set_cons_zero]; rfl) ?_
  refine wpG_do (by rfl) (fun w4 hx4 K hK => ?_)
  go_wp2_with (go_at_call 62; refine (c_two _ _ x (.br y tb) _ (hX.mono (hx1.trans (hx2.trans (hx3.trans hx4)))) (hn1.mono hx4) (by simp only [T.deep]; omega) (by simp only [T.text, ByteArray.size_append]; omega) (by omega) (by simp only [T.deep]; omega)).mono ?_; rintro e w5 ⟨b2, rfl, hn2, hx5⟩)
  refine ⟨hx5, ?_⟩
  repeat first
    | refine wpG_move (by rfl) (by simp only [Act.eval, Array.getD_eq_getD_getElem?, List.getElem?_toArray, List.getElem?_cons_succ, List.getElem?_cons_zero, Option.getD_some]; try rfl) (by simp only [Act.put, List.setIfInBounds_toArray, List.set_cons_succ, List.set_cons_zero]; rfl) ?_
    | refine wpG_assign (by rfl) (by simp only [Act.eval, Array.getD_eq_getD_getElem?, List.getElem?_toArray, List.getElem?_cons_succ, List.getElem?_cons_zero, Option.getD_some]; try rfl) (by simp only [Act.put, List.setIfInBounds_toArray, List.set_cons_succ, List.set_cons_zero]; rfl) ?_
    | refine wpG_val (by rfl) (fun w' hx => (by go_simp; first | (go_bits; first | exact rfl | exact ⟨by omega, rfl⟩) | exact rfl | exact (if_neg (by omega)).trans rfl | exact ⟨by omega, rfl⟩)) (by simp only [Act.put, List.setIfInBounds_toArray, List.set_cons_succ, List.set_cons_zero]; rfl) ?_
    | refine wpG_no (by rfl) (by simp only [Act.put, List.setIfInBounds_toArray, List.set_cons_succ, List.set_cons_zero]; rfl) ?_
  refine wpG_end (fun w6 hx6 => wpList_nil (gQ_normal ?_))
  go_wp2_with fail
  have H := H1.out
  exact ret_one rfl rfl rfl ⟨_, _, rfl, hn2.mono hx6, by simp only [T.text, ByteArray.append_assoc], by simp only [T.deep]; omega, by simp only [T.deep]; omega, hx1.trans (hx2.trans (hx3.trans (hx4.trans (hx5.trans hx6))))⟩

end Go.Proofs.YtohpekbooapcjaaDoor
