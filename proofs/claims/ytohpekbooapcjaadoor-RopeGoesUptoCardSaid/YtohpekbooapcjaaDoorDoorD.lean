/-
  Lists of texts: how long they are, a rope made of them.
-/
import Derived.Test.YtohpekbooapcjaaDoorDoorC
namespace Go.Proofs.YtohpekbooapcjaaDoor
open Go.RowKit Go.Rp

/-- A slice of texts. -/
def StrRow (w : World) (v : Value) (l : List ByteArray) : Prop :=
  ∃ p cap, v = .slice p l.length cap ∧ (l ≠ [] → ∃ b off, p = some ⟨b, off, none⟩ ∧ b < w.heap.size ∧ ∀ i (h : i < l.length), w.cell? ⟨b, off + i, none⟩ = some (.string l[i]))
theorem StrRow.mono {w w' : World} {v : Value} {l : List ByteArray} (hx : Ext w w') (h : StrRow w v l) : StrRow w' v l := by
  obtain ⟨p, cap, rfl, h2⟩ := h
  refine ⟨p, cap, rfl, fun hne => ?_⟩
  obtain ⟨b, off, rfl, hb, hc⟩ := h2 hne
  exact ⟨b, off, rfl, Nat.lt_of_lt_of_le hb hx.sz, fun i hi => (Below.cell hx (p := ⟨b, off + i, none⟩) hb).trans (hc i hi)⟩
theorem StrRow.form {w : World} {v : Value} {l : List ByteArray} (h : StrRow w v l) : ∃ p cap, v = .slice p l.length cap := by
  obtain ⟨p, cap, rfl, _⟩ := h
  exact ⟨p, cap, rfl⟩

def total : List ByteArray → Nat
  | [] => 0
  | s :: l => s.size + total l
theorem total_append (a b : List ByteArray) : total (a ++ b) = total a + total b := by
  induction a with
  | nil => simp [total]
  | cons s l ih => simp [total, ih]; omega
theorem total_step (l : List ByteArray) (k : Nat) (h : k < l.length) : total (l.take (k + 1)) = total (l.take k) + l[k].size := by
  rw [List.take_succ_eq_append_getElem h, total_append]
  simp [total]
theorem total_le (l : List ByteArray) (m : Nat) (h : ∀ s ∈ l, s.size ≤ m) : total l ≤ m * l.length := by
  induction l with
  | nil => simp [total]
  | cons s l ih =>
    have h1 := h s (by simp)
    have h2 := ih (fun x hx => h x (by simp [hx]))
    simp only [total, List.length_cons, Nat.mul_succ]
    omega
theorem total_take (l : List ByteArray) (k : Nat) : total (l.take k) ≤ total l := by
  have := total_append (l.take k) (l.drop k)
  rw [List.take_append_drop] at this
  omega
theorem glue_size (l : List ByteArray) : (glue l).size = total l := by
  induction l with
  | nil => rfl
  | cons s l ih => rw [glue, ByteArray.size_append, ih, total]
theorem glue_step (l : List ByteArray) (k : Nat) (h : k < l.length) : glue (l.take (k + 1)) = glue (l.take k) ++ l[k] := by
  rw [List.take_succ_eq_append_getElem h, glue_append]
  simp [glue]

set_option maxRecDepth 100000 in
set_option maxHeartbeats 2000000 in
/-- Are texts too many, or too long? -/
theorem c_wide (v : Value) (l : List ByteArray) (most : Int) (b : Bool) (w : World) (h : StrRow w v l) (hs : ∀ s ∈ l, s.size ≤ 140737488351232) (hb : b = true ↔ (200 < l.length ∨ most < (total l : Nat))) :
    Calls Tryd.prog 6 #[v, .int .i64 most] w fun e w' => e = .returned (.bool b) ∧ Ext w w' := by
  obtain ⟨p, cap, rfl, hc⟩ := h
  have HB := Lib.hid hb
  have HC := Lib.hid hc
  have HS := Lib.hid hs
  clear hb hc hs
  go_enter Tryd.func6, Tryd.ntmps6
  go_wp2_with fail
  go_loop [5, 6] (fun x y => ∃ k : Nat, y = .int .i64 (k : Nat) ∧ k ≤ l.length ∧ k ≤ 201 ∧ x = .int .i64 (total (l.take k) : Nat)) (fun _ y => 202 - (intOf y).toNat)
  case atStart => exact ⟨0, rfl, by omega, by omega, rfl⟩
  case round =>
    obtain ⟨k, rfl, h1, h2, rfl⟩ := hrel
    have hle : total (l.take k) ≤ 140737488351232 * 201 := by
      have := total_le (l.take k) 140737488351232 (fun s hs => HS.out s (List.mem_of_mem_take hs))
      rw [List.length_take] at this
      have h3 : 140737488351232 * min k l.length ≤ 140737488351232 * 201 := Nat.mul_le_mul_left _ (by omega)
      omega
    by_cases hlt : k < l.length
    · by_cases h200 : k ≤ 200
      · obtain ⟨b', off, rfl, hb', hcell⟩ := HC.out (by intro e; subst e; simp at hlt)
        have hk := hcell k hlt
        have hz := HS.out l[k] (List.getElem_mem hlt)
        have hst := total_step l k hlt
        have HT := Lib.hid hst
        clear hcell hst
        go_wp2_with fail
        go_round
        case rel => exact ⟨k + 1, by go_num, by omega, by omega, by rw [HT.out]; go_num⟩
        case measure => simp [intOf]; omega
      · have hb2 : b = true := HB.out.2 (.inl (by omega))
        have hl2 : (200 : Int) < (l.length : Nat) := by omega
        subst hb2
        go_wp2_with fail
        exact ret_one rfl rfl rfl ⟨rfl, Ext.refl _⟩
    · have hkl : k = l.length := by omega
      have htk : total (l.take k) = total l := by rw [hkl, List.take_length]
      by_cases h200 : 200 < l.length
      · have hb2 : b = true := HB.out.2 (.inl h200)
        have hl2 : (200 : Int) < (l.length : Nat) := by omega
        subst hb2
        clear htk
        go_wp2_with fail
        exact ret_one rfl rfl rfl ⟨rfl, Ext.refl _⟩
      · have hl2 : ¬ (200 : Int) < (l.length : Nat) := by omega
        have hbb : decide (most < (total l : Nat)) = b := by
          cases b with
          | true => exact decide_eq_true ((HB.out.1 rfl).resolve_left h200)
          | false => exact decide_eq_false (fun hh => by have := HB.out.2 (.inr hh); cases this)
        have HBB := Lib.hid hbb
        clear hbb
        subst hkl
        rw [List.take_length] at hle htk
        clear htk
        go_wp2_with fail
        refine ret_one rfl rfl rfl ⟨?_, Ext.refl _⟩
        rw [← HBB.out]
        first | rfl | (rw [List.take_length]; rfl)

/-- A row that is written is no part of a rope. -/
def Apart (w : World) (row : Option Nat) : Prop := ∀ g, row = some g → ∃ cur e f, w.heap[g]? = some (.cells cur e f) ∧ e ≠ 96 ∧ e ≠ 25 ∧ e ≠ 64
theorem IsNode.grown {w w' : World} {row : Option Nat} (hg : w.grownBy w' row) (hr : Apart w row) {v : Value} {t : T} (hn : IsNode w v t) : IsNode w' v t := by
  induction hn with
  | leaf s h1 h2 => exact .leaf s h1 h2
  | br blk va vb a b ha hb hd hc iha ihb =>
    refine .br blk va vb a b iha ihb hd ((hg.block blk (blk_lt hc) (fun e => ?_)).trans hc)
    obtain ⟨cur, e', f, h1, h2, _⟩ := hr blk e.symm
    rw [hc] at h1
    simp only [Option.some.injEq, Obj.cells.injEq] at h1
    exact h2 h1.2.1.symm
theorem IsTree.grown {w w' : World} {row : Option Nat} (hg : w.grownBy w' row) (hr : Apart w row) {v : Value} {o : Option T} (hn : IsTree w v o) : IsTree w' v o := by
  cases o with
  | none => exact hn
  | some t => exact IsNode.grown hg hr hn
theorem IsRope.grown {w w' : World} {row : Option Nat} (hg : w.grownBy w' row) (hr : Apart w row) {v : Value} {o : Option T} (hn : IsRope w v o) : IsRope w' v o := by
  cases hn with
  | nil => exact .nil
  | mk b n o hn hc =>
    refine .mk b n o (hn.grown hg hr) ((hg.block b (blk_lt hc) (fun e => ?_)).trans hc)
    obtain ⟨cur, e', f, h1, _, _, h2⟩ := hr b e.symm
    rw [hc] at h1
    simp only [Option.some.injEq, Obj.cells.injEq] at h1
    exact h2 h1.2.1.symm
theorem apart_row {w : World} {base : Nat} {v : Value} {n : Nat} {xs : List Value} {size : Nat} {e : TypeId} (h : w.ownsRow base e size v n xs) (he : e ≠ 96 ∧ e ≠ 25 ∧ e ≠ 64) : Apart w v.ownBlock := by
  intro g hg
  rcases h.2 with ⟨rfl, _⟩ | ⟨g', cap, cur, rfl, _, hgb, _⟩
  · simp [Value.ownBlock] at hg
  · obtain rfl : g' = g := by simpa [Value.ownBlock] using hg
    exact ⟨cur, e, _, hgb, he⟩

theorem ownsRow_below {W W' : World} {n₀ base : Nat} {e : TypeId} {size : Nat} {v : Value} {n : Nat} {xs : List Value} (h : W.ownsRow base e size v n xs) (hx : Below n₀ W W') (hn : ∀ k, v.ownBlock = some k → k < n₀) : W'.ownsRow base e size v n xs := by
  obtain ⟨h1, h2⟩ := h
  refine ⟨h1, ?_⟩
  rcases h2 with h2 | ⟨g, cap, cur, rfl, a1, a2, a3⟩
  · exact .inl h2
  · exact .inr ⟨g, cap, cur, rfl, a1, (hx.block g (hn g rfl)).trans a2, a3⟩

set_option maxRecDepth 100000 in
set_option maxHeartbeats 4000000 in
/-- A rope of texts that are joined. -/
theorem c_made (v : Value) (l : List ByteArray) (w : World) (h : StrRow w v l) (hn : l.length ≤ 200) (ht : total l ≤ 4000) :
    Calls Tryd.prog 8 #[v] w fun e w' => ∃ r o, e = .returned (.tuple #[r, .string (glue l), .bool true]) ∧ IsRope w' r o ∧ txt o = glue l ∧ Ext w w' := by
  obtain ⟨i0, hi, hz0, hz1, hz2⟩ := info_parts Tryd.infoB
  obtain ⟨p, cap, rfl, hc⟩ := h
  have HC := Lib.hid hc
  clear hc
  go_enter Tryd.func8, Tryd.ntmps8
  go_wp2_with fail
  go_loopw [5, 6, 7] (fun r x y w' => ∃ (k : Nat) (o : Option T), y = .int .i64 (k : Nat) ∧ k ≤ l.length ∧ IsRope w' r o ∧ Hid (txt o = glue (l.take k)) ∧ w'.ownsRow w.heap.size 5 1 x (total (l.take k)) (Lib.strCells (glue (l.take k))) ∧ Ext w w') (fun _ _ y _ => 201 - (intOf y).toNat)
  case atStart => exact ⟨0, none, rfl, by omega, .nil, rfl, World.ownsRow_nil _ _ _ _, Ext.refl w⟩
  case round =>
    obtain ⟨k, o, rfl, h1, hr, htx, hown, hX⟩ := hrel
    have hle := total_take l k
    have hsz : (txt o).size ≤ 4000 := by rw [htx.out, glue_size]; omega
    by_cases hlt : k < l.length
    · obtain ⟨b', off, rfl, hb', hcell⟩ := HC.out (by intro e; subst e; simp at hlt)
      have hk := hcell k hlt
      have hk2 := (Below.cell hX (p := ⟨b', off + k, none⟩) hb').trans hk
      have hst := total_step l k hlt
      have hgl := glue_step l k hlt
      have hle2 := total_take l (k + 1)
      have hz : l[k].size ≤ 4000 := by omega
      have hsum : (txt o).size + l[k].size ≤ 4000 := by rw [htx.out, glue_size]; omega
      have HST := Lib.hid hst
      have HGL := Lib.hid hgl
      clear hcell hst hgl
      go_wp2_with fail
      refine (c_New l[k] _ (by omega)).mono ?_
      rintro e w1 ⟨va, oa, rfl, hA, ea, hx1⟩
      have EA := Lib.hid ea
      have za : (txt oa).size ≤ 4000 ∧ (txt oa).size + (txt o).size ≤ 4000 := by rw [ea]; omega
      clear ea
      go_wp2_with fail
      refine (c_num 0 _).mono ?_
      rintro e w2 ⟨rfl, rfl⟩
      go_wp2_with fail
      refine (c_Join _ va o oa _ (hr.mono hx1) hA (by omega) (by omega) (by omega)).mono ?_
      rintro e w3 ⟨vb, ob, rfl, hB, eb, hx3⟩
      have EB := Lib.hid (eb.trans (by rw [htx.out, EA.out] : _ = glue (l.take k) ++ l[k]))
      clear eb
      go_wp2_with fail
      refine (c_num 0 _).mono ?_
      rintro e w4 ⟨rfl, rfl⟩
      have hk4 := (Below.cell (hX.trans (hx1.trans hx3)) (p := ⟨b', off + k, none⟩) hb').trans hk
      have hown4 := ownsRow_ext (ownsRow_ext hown hx1) hx3
      have hX4 := hX.trans (hx1.trans hx3)
      clear hk2 hown
      go_wp2_with (at_builtin; refine Lib.wpList_append_own_string _ rfl (.tmp 39) (.tmp 43) 43 9 rfl w.heap.size 5 i0 Tryd.underlying43 Tryd.underlying9 hi hz0 hz1 hz2 _ _ _ rfl hown4 l[k] rfl (by unfold maxLen; omega) (by omega) hX4.sz ?_)
      intro v' w5 hown5 hgrow _
      have hX5 : Ext w w5 := Below.grown hX4 hgrow hX4.sz (fun j hj => (hown4.lt j hj).1)
      have hB5 := hB.grown hgrow (apart_row hown4 (by decide))
      have hown6 : w5.ownsRow w.heap.size 5 1 v' (total (l.take (k + 1))) (Lib.strCells (glue (l.take (k + 1)))) := by
        rw [HST.out, HGL.out, strCells_append]
        exact hown5
      clear hown5 hgrow hown4
      go_wp2_with fail
      go_roundw
      case rel => exact ⟨k + 1, ob, by go_num, by omega, hB5, EB.out.trans HGL.out.symm, hown6, hX5⟩
      case measure => simp [intOf]; omega
    · have hkl : k = l.length := by omega
      have hgl : glue (l.take k) = glue l := by rw [hkl, List.take_length]
      have htx2 := Lib.hid (htx.out.trans hgl)
      rw [hgl] at hown
      have hcv : ∀ w', Ext wr w' → (convert 43 9 u6).run Tryd.prog w' = .ok (.string (glue l)) w' := fun w' hx => conv_str (ownsRow_ext hown hx)
      clear hgl
      go_wp2_with fail
      have HR := Lib.hid hr
      clear hr hown
      refine wp_lex [true, true, true, true, true, true] (by kernel_rfl) (by kernel_rfl) ?_
      repeat first
        | refine wpG_move (by rfl) (by simp only [Act.eval, Array.getD_eq_getD_getElem?, List.getElem?_toArray, List.getElem?_cons_succ, List.getElem?_cons_zero, Option.getD_some]; try rfl) (by simp only [Act.put, List.setIfInBounds_toArray, List.set_cons_succ, List.set_cons_zero]; rfl) ?_
        | refine wpG_assign (by rfl) (by simp only [Act.eval, Array.getD_eq_getD_getElem?, List.getElem?_toArray, List.getElem?_cons_succ, List.getElem?_cons_zero, Option.getD_some]; try rfl) (by simp only [Act.put, List.setIfInBounds_toArray, List.set_cons_succ, List.set_cons_zero]; rfl) ?_
        | refine wpG_val (by rfl) (fun w' hx => (by go_simp; first | (go_bits; first | exact rfl | exact ⟨by omega, rfl⟩) | exact rfl | exact (if_neg (by omega)).trans rfl | exact ⟨by omega, rfl⟩)) (by simp only [Act.put, List.setIfInBounds_toArray, List.set_cons_succ, List.set_cons_zero]; rfl) ?_
        | refine wpG_no (by rfl) (by simp only [Act.put, List.setIfInBounds_toArray, List.set_cons_succ, List.set_cons_zero]; rfl) ?_
      refine wpG_end (fun w1 hx1 => wpList_nil (gQ_normal ?_))
      go_wp2_with fail
      exact ret_three rfl rfl rfl rfl rfl ⟨_, o, rfl, HR.out.mono hx1, htx2.out, hX.trans hx1⟩
end Go.Proofs.YtohpekbooapcjaaDoor
