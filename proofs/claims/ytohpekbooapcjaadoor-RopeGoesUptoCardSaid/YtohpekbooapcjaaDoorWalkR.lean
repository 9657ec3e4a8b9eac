/-
  The document's list of runes: where each begins and ends.
-/
import Derived.Test.YtohpekbooapcjaaDoorWalkQ
import Derived.WalkSmall
import Derived.Lib.OthersKept
import Derived.RangeFuncBox
namespace Go.Proofs.YtohpekbooapcjaaDoor
open Go.RowKit Go.Rp

/-- The cells of a list of runes. -/
def runeCells : List (Nat × Nat × Nat) → List Value
  | [] => []
  | (r, p, q) :: l => .int .i32 (r : Nat) :: .int .i64 (p : Nat) :: .int .i64 (q : Nat) :: runeCells l
theorem runeCells_append (a b : List (Nat × Nat × Nat)) : runeCells (a ++ b) = runeCells a ++ runeCells b := by
  induction a with
  | nil => rfl
  | cons x r ih => obtain ⟨r', p, q⟩ := x; simp [runeCells, ih]
theorem runeCells_length (a : List (Nat × Nat × Nat)) : (runeCells a).length = a.length * 3 := by
  induction a with
  | nil => rfl
  | cons x r ih => obtain ⟨r', p, q⟩ := x; simp only [runeCells, List.length_cons, ih]; omega
/-- The last rune's end, set anew. -/
def setEnd (l : List (Nat × Nat × Nat)) (n : Nat) : List (Nat × Nat × Nat) := match l.getLast? with
  | none => []
  | some x => l.dropLast ++ [(x.1, x.2.1, n)]
theorem Tryd.infoR : (Tryd.prog.info? 31).map (fun i => (i.zero, i.size, i.bytes)) = some (some (.agg #[.int .i32 0, .int .i64 0, .int .i64 0]), 3, 24) := by kernel_rfl

theorem marks_step (n : Nat) (l : List UInt8) (p : Nat) (h : l ≠ []) : marks (n + 1) l p = (run l, p, p + wid l) :: marks n (l.drop (wid l)) (p + wid l) := by simp [marks, h]
theorem marks_nil (n p : Nat) : marks n [] p = [] := by cases n <;> simp [marks]

/-- How far the list has come. -/
def Come (s : ByteArray) (pos : Nat) (w w' : World) (v : Value) : Prop :=
  (pos = 0 ∧ v = .slice none 0 0 ∧ 0 < s.size) ∨ ∃ p0 r p f, marks s.size s.data.toList 0 = p0 ++ (r, p, pos) :: marks f (s.data.toList.drop pos) pos ∧ s.size ≤ f + pos ∧ p0.length + 1 ≤ pos ∧
    w'.ownsRow (w.heap.size + 1) 31 3 v (p0.length + 1) (runeCells (p0 ++ [(r, p, s.size)]))

theorem cell3_new (w : World) (a b c : Value) (t : TypeId) : ∀ j u, [a, b, c][j]? = some u → (w.alloc (.cells #[a, b, c] t)).cell? ((⟨w.heap.size, 0, none⟩ : Addr).add j) = some u := by
  intro j u h
  have hj : j = 0 ∨ j = 1 ∨ j = 2 := by
    have := (List.getElem?_eq_some_iff.1 h).1
    simp at this
    omega
  rcases hj with rfl | rfl | rfl <;> (simp at h; subst h; simp [Addr.add])
theorem set_end (p0 : List (Nat × Nat × Nat)) (r p q n : Nat) : (runeCells (p0 ++ [(r, p, q)])).set (p0.length * 3 + 2) (.int .i64 (n : Nat)) = runeCells (p0 ++ [(r, p, n)]) := by
  rw [runeCells_append, runeCells_append, List.set_append_right _ _ (by rw [runeCells_length]; omega), runeCells_length, show p0.length * 3 + 2 - p0.length * 3 = 2 from by omega]
  rfl
theorem dec_fst (s : ByteArray) (pos : Nat) : (Utf8.decode s pos).1 = run (s.data.toList.drop pos) := dec_run s pos
/-- One rune more. -/
theorem come_next (s : ByteArray) (pos : Nat) (hlt : pos < s.size) (w w' : World) (v : Value) (p0 : List (Nat × Nat × Nat)) (r p f : Nat)
    (hM : marks s.size s.data.toList 0 = p0 ++ (r, p, pos) :: marks f (s.data.toList.drop pos) pos) (hf : s.size ≤ f + pos) (hl : p0.length + 1 ≤ pos)
    (ho : w'.ownsRow (w.heap.size + 1) 31 3 v (p0.length + 1 + 1) ((runeCells (p0 ++ [(r, p, s.size)])).set (p0.length * 3 + 2) (.int .i64 (pos : Nat)) ++ [.int .i32 ((Utf8.decode s pos).1 : Nat), .int .i64 (pos : Nat), .int .i64 (s.size : Nat)])) :
    Come s (pos + (Utf8.decode s pos).2) w w' v := by
  obtain ⟨f', rfl⟩ : ∃ f', f = f' + 1 := ⟨f - 1, by omega⟩
  rw [marks_step _ _ _ (drop_ne s pos hlt), List.drop_drop, ← dec_wid, ← dec_fst] at hM
  rw [set_end] at ho
  have h2 := widAt_pos s pos
  unfold widAt at h2
  refine .inr ⟨p0 ++ [(r, p, pos)], (Utf8.decode s pos).1, pos, f', by rw [hM]; simp, by omega, by simp; omega, ?_⟩
  rw [runeCells_append]
  simpa [runeCells] using ho
theorem come_first (s : ByteArray) (hlt : 0 < s.size) (w w' : World) (v : Value)
    (ho : w'.ownsRow (w.heap.size + 1) 31 3 v (0 + 1) ([] ++ [.int .i32 ((Utf8.decode s 0).1 : Nat), .int .i64 ((0 : Nat) : Int), .int .i64 (s.size : Nat)])) :
    Come s (0 + (Utf8.decode s 0).2) w w' v := by
  obtain ⟨f', hf'⟩ : ∃ f', s.size = f' + 1 := ⟨s.size - 1, by omega⟩
  have h2 := widAt_pos s 0
  unfold widAt at h2
  have hM := marks_step f' s.data.toList 0 (by have := drop_ne s 0 hlt; simpa using this)
  rw [← hf'] at hM
  have e1 := dec_wid s 0
  have e2 := dec_fst s 0
  simp only [List.drop_zero] at e1 e2
  refine .inr ⟨[], (Utf8.decode s 0).1, 0, f', by rw [hM, e1, e2]; simp, by omega, by simp; omega, ?_⟩
  simpa [runeCells] using ho

set_option maxRecDepth 100000 in
set_option maxHeartbeats 4000000 in
theorem c_SRunes (s : ByteArray) (w : World) (hs : s.size ≤ 1099511627776) :
    Calls Tryd.prog 9 #[.string s] w fun e w' => ∃ v, e = .returned v ∧ w'.ownsRow (w.heap.size + 1) 31 3 v (marks s.size s.data.toList 0).length (runeCells (marks s.size s.data.toList 0)) ∧ Ext w w' := by
  obtain ⟨i0, hi, hz0, hz1, hz2⟩ := info_parts Tryd.infoR
  go_enter Tryd.func9, Tryd.ntmps9
  go_wp2
  go_loopw [3, 4, 5] (fun v _ _ w' => ∃ pos : Nat, w'.heap[w.heap.size]? = some (.stringIter s pos) ∧ pos ≤ s.size ∧ Ext w w' ∧ (s.size = 0 ∧ v = .slice none 0 0 ∨ Come s pos w w' v)) (fun _ _ _ w' => s.size - w'.iterPos w.heap.size)
  case atStart =>
    refine ⟨0, World.iter_heap w s 0, by omega, (Ext.refl w).iter s 0, ?_⟩
    by_cases h : s.size = 0
    · exact .inl ⟨h, rfl⟩
    · exact .inr (.inl ⟨rfl, rfl, by omega⟩)
  case round =>
    obtain ⟨pos, hit, hp, hx, hcome⟩ := hrel
    have hpos := iterPos_of hit
    by_cases hlt : pos < s.size
    · have hnx : ∀ ty, (Instr.next (.pointer (some ⟨w.heap.size, 0, none⟩)) true ty).run Tryd.prog wr = _ := fun ty => Lib.run_next_any_at wr w.heap.size s pos ty hit hlt
      rcases hcome with ⟨h0, _⟩ | ⟨rfl, rfl, h0⟩ | ⟨p0, r, p, f, hM, hf, hl, hown⟩
      · omega
      · have hdec := decode_le s 0
        go_wp2_with (at_builtin; refine wpList_append_own _ rfl (.tmp 22) (.tmp 28) 28 rfl (w.heap.size + 1) 31 i0 (.agg #[.int .i32 0, .int .i64 0, .int .i64 0]) 3 24 Tryd.underlying28 hi hz0 hz1 hz2 rfl (by decide) _ 0 [] rfl (World.ownsRow_nil _ _ _ _) ⟨_, 0, none⟩ 1 1 [.int .i32 ((Utf8.decode s 0).1 : Nat), .int .i64 ((0 : Nat) : Int), .int .i64 (s.size : Nat)] rfl rfl ?d1 ?d2 ?d3 ?d4 ?d5 ?_)
        case d1 => exact cell3_new _ _ _ _ _
        case d2 => simp [Value.oneCell']
        case d3 => unfold maxLen; omega
        case d4 => omega
        case d5 => have := blk_lt hit; simp [Lib.iterAt_size]; omega
        intro v' w' hown' hgrow _
        have hcome := come_first s h0 w w' v' hown'
        rw [Nat.zero_add] at hcome
        have hE0 : Ext w (((wr.iterAt w.heap.size s (Utf8.decode s 0).2)).alloc (.cells #[.int .i32 ((Utf8.decode s 0).1 : Nat), .int .i64 0, .int .i64 (s.size : Nat)] 31)) :=
          Ext.alloc (Lib.below_iterAt hx (Nat.le_refl _) s _) _
        have hE : Ext w w' := Below.grown hE0 hgrow hE0.sz (fun k hk => by cases hk)
        have hI0 : (((wr.iterAt w.heap.size s (Utf8.decode s 0).2)).alloc (.cells #[.int .i32 ((Utf8.decode s 0).1 : Nat), .int .i64 0, .int .i64 (s.size : Nat)] 31)).heap[w.heap.size]? = some (.stringIter s (Utf8.decode s 0).2) := by
          have h1 := blk_lt hit
          rw [Below.heap_alloc _ _ _ (by simp [Lib.iterAt_size]; omega)]
          exact Lib.iterAt_heap wr _ s 0 _ hit
        have hI : w'.heap[w.heap.size]? = some (.stringIter s (Utf8.decode s 0).2) := by
          rw [hgrow.block _ (blk_lt hI0) (fun hk => by cases hk)]
          exact hI0
        have hw := widAt_le s 0 hlt
        have hw2 := widAt_pos s 0
        unfold widAt at hw hw2
        rw [Nat.zero_add] at hw
        have hp' := iterPos_of hI
        clear hown' hgrow hE0
        go_wp2_with fail
        go_roundw
        case rel => exact ⟨_, hI, hw, hE, .inr hcome⟩
        case measure => rw [hp', hpos]; omega
      · obtain ⟨g, cap, rfl⟩ := ownsRow_succ hown
        have HM := Lib.hid hM
        clear hM
        have hown1 := ownsRow_iterAt hown (Nat.lt_succ_self w.heap.size) s (pos + (Utf8.decode s pos).2)
        have hcell := hown1.cellAt (p0.length * 3 + 2) (by omega)
        rw [runeCells_append] at hcell
        have hlen := runeCells_length p0
        rw [List.getElem?_append_right (by omega), hlen] at hcell
        have hcell' : (wr.iterAt w.heap.size s (pos + (Utf8.decode s pos).2)).cell? ⟨g, p0.length * 3 + 2, none⟩ = some (.int .i64 (s.size : Nat)) := by rw [hcell, show p0.length * 3 + 2 - p0.length * 3 = 2 from by omega]; rfl
        have hfro := hown1.frozenAt (p0.length * 3 + 2)
        clear hcell hlen
        have hst := (hown1.stored (p0.length * 3 + 2) (.int .i64 (pos : Nat))).1
        have hdec := decode_le s pos
        go_wp2_with (at_builtin; refine wpList_append_own _ rfl (.tmp 22) (.tmp 28) 28 rfl (w.heap.size + 1) 31 i0 (.agg #[.int .i32 0, .int .i64 0, .int .i64 0]) 3 24 Tryd.underlying28 hi hz0 hz1 hz2 rfl (by decide) _ _ _ rfl (hst.alloc _) ⟨_, 0, none⟩ 1 1 [.int .i32 ((Utf8.decode s pos).1 : Nat), .int .i64 (pos : Nat), .int .i64 (s.size : Nat)] rfl rfl ?c1 ?c2 ?c3 ?c4 ?c5 ?_)
        case c1 =>
          have h3 := cell3_new ((wr.iterAt w.heap.size s (pos + (Utf8.decode s pos).2)).setCell ⟨g, p0.length * 3 + 2, none⟩ (.int .i64 (pos : Nat))) (.int .i32 ((Utf8.decode s pos).1 : Nat)) (.int .i64 (pos : Nat)) (.int .i64 (s.size : Nat)) 31
          rw [World.size_setCell] at h3
          exact h3
        case c2 => simp [Value.oneCell']
        case c3 => unfold maxLen; omega
        case c4 => omega
        case c5 => have := hx.sz; simp [Lib.iterAt_size]; omega
        intro v' w' hown' hgrow _
        have hcome := come_next s pos hlt w w' v' p0 r p f HM.out hf hl hown'
        have hgl := hown.lt g rfl
        have hE0 : Ext w ((((wr.iterAt w.heap.size s (pos + (Utf8.decode s pos).2)).setCell ⟨g, p0.length * 3 + 2, none⟩ (.int .i64 (pos : Nat))).alloc (.cells #[.int .i32 ((Utf8.decode s pos).1 : Nat), .int .i64 (pos : Nat), .int .i64 (s.size : Nat)] 31))) :=
          Ext.alloc (Ext.setCell (Lib.below_iterAt hx (Nat.le_refl _) s _) (by show w.heap.size ≤ g; omega) _) _
        have hrow : ∀ k, (Value.slice (some ⟨g, 0, none⟩) (p0.length + 1) cap).ownBlock = some k → w.heap.size ≤ k := by
          intro k hk
          have hgk : g = k := by simpa [Value.ownBlock] using hk
          omega
        have hrow2 : (Value.slice (some ⟨g, 0, none⟩) (p0.length + 1) cap).ownBlock ≠ some w.heap.size := by
          intro hk
          have hgk : g = w.heap.size := by simpa [Value.ownBlock] using hk
          omega
        have hE : Ext w w' := Below.grown hE0 hgrow hE0.sz hrow
        have hI0 : ((((wr.iterAt w.heap.size s (pos + (Utf8.decode s pos).2)).setCell ⟨g, p0.length * 3 + 2, none⟩ (.int .i64 (pos : Nat))).alloc (.cells #[.int .i32 ((Utf8.decode s pos).1 : Nat), .int .i64 (pos : Nat), .int .i64 (s.size : Nat)] 31))).heap[w.heap.size]? = some (.stringIter s (pos + (Utf8.decode s pos).2)) := by
          have h1 := blk_lt hit
          rw [Below.heap_alloc _ _ _ (by simp [Lib.iterAt_size]; omega), Below.heap_setCell _ _ _ _ (by show w.heap.size ≠ g; omega)]
          exact Lib.iterAt_heap wr _ s pos _ hit
        have hI : w'.heap[w.heap.size]? = some (.stringIter s (pos + (Utf8.decode s pos).2)) := by
          rw [hgrow.block _ (blk_lt hI0) (fun hk => hrow2 hk.symm)]
          exact hI0
        have hw := widAt_le s pos hlt
        have hw2 := widAt_pos s pos
        unfold widAt at hw hw2
        have hp' := iterPos_of hI
        clear hown' hgrow hE0
        go_wp2_with fail
        go_roundw
        case rel => exact ⟨_, hI, hw, hE, .inr hcome⟩
        case measure => rw [hp', hpos]; omega
    · have hnx : ∀ ty, (Instr.next (.pointer (some ⟨w.heap.size, 0, none⟩)) true ty).run Tryd.prog wr = _ := fun ty => Lib.run_next_end_at wr w.heap.size s pos ty hit hlt
      rcases hcome with ⟨h0, rfl⟩ | ⟨rfl, rfl, h0⟩ | ⟨p0, r, p, f, hM, hf, hl, hown⟩
      · go_wp2_with fail
        refine ret_one rfl rfl rfl ⟨_, rfl, ?_, hx⟩
        have e : s.data.toList = [] := by
          have := len_eq s
          rw [h0] at this
          exact List.length_eq_zero_iff.1 this
        rw [e, marks_nil]
        exact World.ownsRow_nil _ _ _ _
      · omega
      · have e : s.data.toList.drop pos = [] := List.drop_of_length_le (by rw [len_eq]; omega)
        rw [e, marks_nil] at hM
        have HM := Lib.hid hM
        have HP := Lib.hid (show pos = s.size by omega)
        clear hM e
        go_wp2_with fail
        refine ret_one rfl rfl rfl ⟨_, rfl, ?_, hx⟩
        rw [HM.out, HP.out]
        simpa using hown
end Go.Proofs.YtohpekbooapcjaaDoor
