/-
  The text of a rope: its pieces, one behind the other.
-/
import Derived.RangeFuncBox
import Derived.Shelf.Abstract
import Derived.Lib.AppendStr
import Derived.Laws.IdiomStrings
import Derived.Test.YtohpekbooapcjaaDoorWalkU
namespace Go.Proofs.YtohpekbooapcjaaDoor
open Go.RowKit Go.Rp Go.Lib Go.Shelf

attribute [local go_sem] Oper.semAt_some

theorem wpListIn_append_str {F : Fence} {n' : Nat} {P : Program} {ops : Array Oper} {rest : List Oper} {o : Oper} {a : Act} {Q : Exit → Act → World → Prop} (w : World) (hgd : o.guard = none) (sl x : Operand) (t u : TypeId)
    (ho : o.op = .call { callee := .builtin .append, args := #[sl, x], argTypes := #[t, u] })
    (base : Nat) (e : TypeId) (i : TypeInfo) (ht : P.underlying t = some (.slice e)) (hu : P.underlying u = some .string) (hi : P.info? e = some i) (hz : i.zero = some (.int .u8 0))
    (hsize : i.size = 1) (hby : i.bytes = 1)
    (v : Value) (n : Nat) (xs : List Value) (hs : a.eval sl = v) (hown : w.ownsRow base e 1 v n xs) (s : ByteArray) (hx : a.eval x = .string s)
    (h63 : n + s.size ≤ maxLen) (hbytes : n + s.size ≤ 140737488355328) (hbase : base ≤ w.heap.size)
    (h : ∀ v' w', w'.ownsRow base e 1 v' (n + s.size) (xs ++ strCells s) → w.grownBy w' v.ownBlock → (v' = .slice none 0 0 ↔ v = .slice none 0 0 ∧ s.size = 0) → wpListIn F n' P ops Q rest (a.put o.dst v') w') : wpListIn F n' P ops Q (o :: rest) a w := by
  refine wpListIn_plain hgd fun K hK => ?_
  obtain ⟨v', w', hr, h2, h3, h4⟩ := run_append_own_string (P := P) w base t u o.type e i ht hu hi hz hsize hby v n xs hown s h63 hbytes hbase
  unfold Oper.wpIn
  refine ⟨?_, ?_⟩
  · simp [Oper.about, ho, resolve, Target.leads, Sem.run_pure]
  · rw [Oper.semAt_plain F _ _ (by rw [ho]; intro c hc'; cases hc')]
    simp [execOp, ho, resolve, invoke, builtin, hs, hx, hr, Result.andThen]
    exact hK _ _ (h v' w' h2 h3 h4)

/-- 'b = append(b, s..)': what the walk owes behind the store. -/
theorem boxed_str {W w1 : World} {n₀ B : Nat} {t e : TypeId} {size : Nat} {v v' : Value} {k m : Nat} {xs ys : List Value}
    (hv : Boxed W B t v) (hte : t ≠ e) (hrow : W.ownsRow n₀ e size v k xs) (hn₀ : n₀ ≤ W.heap.size) (hB : n₀ ≤ B)
    (hown' : w1.ownsRow n₀ e size v' m ys) (hgrow : W.grownBy w1 v.ownBlock) :
    Boxed w1 B t v ∧ Boxed (w1.setCell ⟨B, 0, none⟩ v') B t v' ∧ (w1.setCell ⟨B, 0, none⟩ v').ownsRow n₀ e size v' m ys ∧ KeepsOthers W (w1.setCell ⟨B, 0, none⟩ v') ∧ Below n₀ W (w1.setCell ⟨B, 0, none⟩ v') := by
  have hv1 : Boxed w1 B t v := hv.kept hgrow (hv.not_row hte hrow)
  refine ⟨hv1, hv1.set v', hown'.kept (grownBy_setCell' w1 B v') (.inr (hv1.not_row hte hown').symm), ?_, ?_⟩
  · refine (KeepsOthers.of_grownBy hgrow fun j o ej hj => ?_).trans (KeepsOthers.setCell _ _ _)
    rcases hrow.2 with ⟨rfl, _⟩ | ⟨g, cap, cur, rfl, _, hgb, _⟩
    · simp [Value.ownBlock] at ej
    · obtain rfl : g = j := by simpa [Value.ownBlock] using ej
      rw [hgb] at hj; cases hj; rfl
  · refine ((Below.refl n₀ W).grown hgrow hn₀ fun j ej => ?_).setCell (p := ⟨B, 0, none⟩) hB v'
    rcases hrow.2 with ⟨rfl, _⟩ | ⟨g, cap, cur, rfl, hb, _, _⟩
    · simp [Value.ownBlock] at ej
    · obtain rfl : g = j := by simpa [Value.ownBlock] using ej
      exact hb

theorem ownsRow_pos {W : World} {base : Nat} {e : TypeId} {size : Nat} {v : Value} {k : Nat} {xs : List Value} (h : W.ownsRow base e size v k xs) (hk : 0 < k) : ∃ g cap, v = .slice (some ⟨g, 0, none⟩) k cap := by
  obtain ⟨k', rfl⟩ : ∃ k', k = k' + 1 := ⟨k - 1, by omega⟩
  exact ownsRow_succ h
theorem Tryd.infoB : (Tryd.prog.info? 5).map (fun i => (i.zero, i.size, i.bytes)) = some (some (.int .u8 0), 1, 1) := by kernel_rfl
theorem strCells_append (a b : ByteArray) : strCells (a ++ b) = strCells a ++ strCells b := by
  simp [strCells, ByteArray.toList_data_append]

/-- Bytes that a slice owns, as a string. -/
theorem conv_str {w : World} {base : Nat} {v : Value} {s : ByteArray} {n : Nat} (h : w.ownsRow base 5 1 v n (strCells s)) : (convert 43 9 v).run Tryd.prog w = .ok (.string s) w := by
  have hl := h.1
  rw [strCells_length, Nat.mul_one] at hl
  rcases h.2 with ⟨rfl, h0⟩ | ⟨g, cap, cur, rfl, _, hgb, h1, h2, h3, h4⟩
  · rw [run_convert_bytes_string w 43 9 5 none 0 0 Tryd.underlying43 Tryd.underlying5 Tryd.underlying9]
    have e : s = ByteArray.empty := ByteArray.ext (Array.eq_empty_of_size_eq_zero (show s.data.size = 0 from hl.trans h0))
    rw [e]
    rfl
  · have hn : n = s.data.toList.length := by rw [len_eq]; exact hl.symm
    subst hn
    refine (run_convert_bytes_back (P := Tryd.prog) w 43 9 5 ⟨g, 0, none⟩ cap s.data.toList Tryd.underlying43 Tryd.underlying5 Tryd.underlying9 (fun j hj => ?_)).trans (by rfl)
    rw [Addr.add_lit, Nat.zero_add]
    rw [h.cellAt j (by omega)]
    unfold strCells
    rw [List.getElem?_map, List.getElem?_eq_getElem hj]
    rfl

set_option maxRecDepth 100000 in
set_option maxHeartbeats 4000000 in
/-- The text of a rope. -/
theorem c_String_in (p : Option Addr) (o : Option T) (w : World) (h : IsRope w (.pointer p) o) (hs : (txt o).size ≤ 4294967296) :
    CallsIn Fence.wide 3 Tryd.prog 27 #[.pointer p] w fun e W' => e = .returned (.string (txt o)) ∧ Ext w W' := by
  obtain ⟨ps, hps, hgl⟩ := pieces_ofR h
  have hall : ∀ f, Fence.wide.fn f := fun _ => trivial
  have hro : Fence.wide.round = none := rfl
  obtain ⟨i0, hi, hz0, hz1, hz2⟩ := info_parts Tryd.infoB
  refine callsIn_of_wp_marks Tryd.func27 rfl (hall _) ?_ rfl
  simp only [Tryd.ntmps27, List.size_toArray, List.length_cons, List.length_nil, Nat.reduceAdd, Nat.reduceSub, Array.replicate_succ, Array.replicate_zero, List.push_toArray, List.append_toArray, List.nil_append, List.cons_append]
  have hp : ∀ w', CallsIn Fence.wide (3 - 1) Tryd.prog 18 #[.pointer p] w' _ := fun w' => callsIn_wide.2 (c_Pieces p w')
  gi_wp2_with (first | ((try refine ⟨fun _ _ => hall _, ?_⟩); gi_at_call 18; refine (hp _).mono ?_; rintro e w' ⟨rfl, rfl⟩))
  have bO := Boxed.new w 43 (.slice none 0 0)
  have bN := Boxed.new (w.alloc (.cells #[.slice none 0 0] 43)) 25 (.pointer p)
  rw [World.size_alloc] at bN
  have hB0 : Below w.heap.size w ((w.alloc (.cells #[.slice none 0 0] 43)).alloc (.cells #[.pointer p] 25)) := ((Below.refl _ w).alloc (Nat.le_refl _) _).alloc (by simp) _
  refine wpIn_rangeFunc_ownF hro (by decide) (gf := 33) (lb := #[.pointer (some ⟨w.heap.size + 1, 0, none⟩)]) rfl (hall _) (enters_of Tryd.func33 (by kernel_rfl) rfl)
    (pieces_stops (.pointer p) o ps hps (3 - 1) (w.heap.size + 1) w _ h hB0 bN) belowK_t (belowK_b (by simp; omega)) (Below.refl _ _) (fun _ => rfl)
    (fun pre W => (∃ v, Boxed W w.heap.size 43 v ∧ W.ownsRow w.heap.size 5 1 v (glueP pre).size (strCells (glueP pre)) ∧ True) ∧ Below w.heap.size w W)
    (fun _ _ _ => False)
    (OwnFrom.and (Own.from (holdsRow_own w.heap.size w.heap.size 43 5 1 (fun pre => (glueP pre).size) (fun pre => strCells (glueP pre)) (fun _ _ => True)) _) (ownFrom_below (Nat.le_refl _) (by simp; omega)))
    (fun _ _ _ _ _ hs _ _ => hs)
    ⟨⟨_, bO.alloc _, World.ownsRow_nil _ _ _ _, trivial⟩, hB0⟩
    (fun x => { tmps := #[.pointer p, undef, .string ByteArray.empty, .pointer (some ⟨w.heap.size, 0, none⟩), .string x.1, .pointer p, .func (.func 33) #[] #[.pointer (some ⟨w.heap.size + 1, 0, none⟩)], .string x.1, undef, undef, undef, undef, undef], defers := [] }) ?assign ?body ?done ?stop
  case assign =>
    intro l x W K hK
    gi_wp2
    exact hK
  case body =>
    rintro l pre x W ⟨⟨v, hv, hrow, _⟩, hB⟩ hlt
    have hc := hv.cell
    have hx1 := x.2
    have hle := glueP_le pre
    have hle2 := glueP_le ps
    rw [hgl] at hle2
    gi_wp2_with (gi_at_builtin; refine wpListIn_append_str _ rfl (.tmp 8) (.tmp 9) 43 9 rfl w.heap.size 5 i0 Tryd.underlying43 Tryd.underlying9 hi hz0 hz1 hz2 _ _ _ rfl hrow x.1 rfl (by unfold maxLen; omega) (by omega) hB.size ?_; intro v' w1 hown' hgrow _; obtain ⟨g', cap', rfl⟩ := ownsRow_pos hown' (by omega); obtain ⟨hv1, hv2, hr2, hk2, hb2⟩ := boxed_str hv (by decide) hrow hB.size (Nat.le_refl _) hown' hgrow; have hc1 := hv1.cell; have hf1 := hv1.frozen)
    refine ⟨hk2, hb2, ⟨_, hv2, ?_, trivial⟩, hB.trans hb2⟩
    rw [glueP_snoc, strCells_append, ByteArray.size_append]
    exact hr2
  case done =>
    rintro D ys W hD rfl ⟨⟨v, hv, hrow, _⟩, hB⟩ hK
    have hc := hv.cell
    have hcv := conv_str hrow
    gi_wp2
    refine ⟨by simp, .inl ⟨_, _, rfl, run_takeDeferred hK, ?_⟩⟩
    exact ⟨_, results_tmp rfl _ _ _, rfl, hB.trans (belowK_b (w := w) (Nat.le_refl _) W D _ _ (by simp at hD; omega) hK rfl rfl)⟩
  case stop =>
    rintro D c pre W _ _ h _
    exact h.elim
end Go.Proofs.YtohpekbooapcjaaDoor
