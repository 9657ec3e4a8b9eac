/-
  The faulty bytes of a text stay, in their order; a text of plain bytes stays wholly.
-/
import Derived.Test.YteokfknkcbmigaaDoorLiveM
import Derived.WalkSmall
import Derived.Lib.OthersKept
import Derived.RangeFuncBox
import Derived.Laws.RangeAny
import Derived.Laws.BytesArg
namespace Go.Proofs.YteokfknkcbmigaaDoor
open Go.RowKit Go.Rp Go.Shelf Go.Maps Go.Nm

theorem dec_wid (s : ByteArray) (i : Nat) : (Utf8.decode s i).2 = wid (s.data.toList.drop i) := by rw [dec_at]; rfl
theorem dec_run (s : ByteArray) (i : Nat) : (Utf8.decode s i).1 = run (s.data.toList.drop i) := by rw [dec_at]; rfl
theorem drop_ne (s : ByteArray) (i : Nat) (h : i < s.size) : s.data.toList.drop i ≠ [] := by
  intro e
  have := congrArg List.length e
  simp at this
  change s.size - i = 0 at this
  omega
def widAt (s : ByteArray) (k : Nat) : Nat := (Utf8.decode s k).2
theorem widAt_pos (s : ByteArray) (k : Nat) : 1 ≤ widAt s k := by unfold widAt; rw [dec_wid]; exact wid_pos _
theorem widAt_le (s : ByteArray) (k : Nat) (h : k < s.size) : k + widAt s k ≤ s.size := by
  unfold widAt; rw [dec_wid]
  have := wid_le _ (drop_ne s k h)
  simp only [List.length_drop, len_eq] at this
  omega
/-- The cells of a list of runes. -/
def runeCells : List (Nat × Nat × Nat) → List Value
  | [] => []
  | (r, p, q) :: l => .int .i32 (r : Nat) :: .int .i64 (p : Nat) :: .int .i64 (q : Nat) :: runeCells l
theorem runeCells_append (a b : List (Nat × Nat × Nat)) : runeCells (a ++ b) = runeCells a ++ runeCells b := by
  induction a with
  | nil => rfl
  | cons x r ih => obtain ⟨r', p, q⟩ := x; simp [runeCells, ih]
theorem runeCells_length (a : List (Nat × Nat × Nat)) : (runeCells a).length = a.length * 3 := by
  induction a with
  | nil => rfl
  | cons x r ih => obtain ⟨r', p, q⟩ := x; simp only [runeCells, List.length_cons, ih]; omega
theorem Tryd.infoR : (Tryd.prog.info? 47).map (fun i => (i.zero, i.size, i.bytes)) = some (some (.agg #[.int .i32 0, .int .i64 0, .int .i64 0]), 3, 24) := by kernel_rfl

theorem marks_step (n : Nat) (l : List UInt8) (p : Nat) (h : l ≠ []) : marks (n + 1) l p = (run l, p, p + wid l) :: marks n (l.drop (wid l)) (p + wid l) := by simp [marks, h]
theorem marks_nil (n p : Nat) : marks n [] p = [] := by cases n <;> simp [marks]

/-- How far the list has come. -/
def Come (s : ByteArray) (pos : Nat) (w w' : World) (v : Value) : Prop :=
  (pos = 0 ∧ v = .slice none 0 0 ∧ 0 < s.size) ∨ ∃ p0 r p f, marks s.size s.data.toList 0 = p0 ++ (r, p, pos) :: marks f (s.data.toList.drop pos) pos ∧ s.size ≤ f + pos ∧ p0.length + 1 ≤ pos ∧
    w'.ownsRow (w.heap.size + 1) 47 3 v (p0.length + 1) (runeCells (p0 ++ [(r, p, s.size)]))

theorem cell3_newR (w : World) (a b c : Value) (t : TypeId) : ∀ j u, [a, b, c][j]? = some u → (w.alloc (.cells #[a, b, c] t)).cell? ((⟨w.heap.size, 0, none⟩ : Addr).add j) = some u := by
  intro j u h
  have hj : j = 0 ∨ j = 1 ∨ j = 2 := by
    have := (List.getElem?_eq_some_iff.1 h).1
    simp at this
    omega
  rcases hj with rfl | rfl | rfl <;> (simp at h; subst h; simp [Addr.add])
theorem set_end (p0 : List (Nat × Nat × Nat)) (r p q n : Nat) : (runeCells (p0 ++ [(r, p, q)])).set (p0.length * 3 + 2) (.int .i64 (n : Nat)) = runeCells (p0 ++ [(r, p, n)]) := by
  rw [runeCells_append, runeCells_append, List.set_append_right _ _ (by rw [runeCells_length]; omega), runeCells_length, show p0.length * 3 + 2 - p0.length * 3 = 2 from by omega]
  rfl
theorem dec_fst (s : ByteArray) (pos : Nat) : (Utf8.decode s pos).1 = run (s.data.toList.drop pos) := dec_run s pos
/-- One rune more. -/
theorem come_next (s : ByteArray) (pos : Nat) (hlt : pos < s.size) (w w' : World) (v : Value) (p0 : List (Nat × Nat × Nat)) (r p f : Nat)
    (hM : marks s.size s.data.toList 0 = p0 ++ (r, p, pos) :: marks f (s.data.toList.drop pos) pos) (hf : s.size ≤ f + pos) (hl : p0.length + 1 ≤ pos)
    (ho : w'.ownsRow (w.heap.size + 1) 47 3 v (p0.length + 1 + 1) ((runeCells (p0 ++ [(r, p, s.size)])).set (p0.length * 3 + 2) (.int .i64 (pos : Nat)) ++ [.int .i32 ((Utf8.decode s pos).1 : Nat), .int .i64 (pos : Nat), .int .i64 (s.size : Nat)])) :
    Come s (pos + (Utf8.decode s pos).2) w w' v := by
  obtain ⟨f', rfl⟩ : ∃ f', f = f' + 1 := ⟨f - 1, by omega⟩
  rw [marks_step _ _ _ (drop_ne s pos hlt), List.drop_drop, ← dec_wid, ← dec_fst] at hM
  rw [set_end] at ho
  have h2 := widAt_pos s pos
  unfold widAt at h2
  refine .inr ⟨p0 ++ [(r, p, pos)], (Utf8.decode s pos).1, pos, f', by rw [hM]; simp, by omega, by simp; omega, ?_⟩
  rw [runeCells_append]
  simpa [runeCells] using ho
theorem come_first (s : ByteArray) (hlt : 0 < s.size) (w w' : World) (v : Value)
    (ho : w'.ownsRow (w.heap.size + 1) 47 3 v (0 + 1) ([] ++ [.int .i32 ((Utf8.decode s 0).1 : Nat), .int .i64 ((0 : Nat) : Int), .int .i64 (s.size : Nat)])) :
    Come s (0 + (Utf8.decode s 0).2) w w' v := by
  obtain ⟨f', hf'⟩ : ∃ f', s.size = f' + 1 := ⟨s.size - 1, by omega⟩
  have h2 := widAt_pos s 0
  unfold widAt at h2
  have hM := marks_step f' s.data.toList 0 (by have := drop_ne s 0 hlt; simpa using this)
  rw [← hf'] at hM
  have e1 := dec_wid s 0
  have e2 := dec_fst s 0
  simp only [List.drop_zero] at e1 e2
  refine .inr ⟨[], (Utf8.decode s 0).1, 0, f', by rw [hM, e1, e2]; simp, by omega, by simp; omega, ?_⟩
  simpa [runeCells] using ho

set_option maxRecDepth 100000 in
set_option maxHeartbeats 4000000 in
theorem c_SRunes (s : ByteArray) (w : World) (hs : s.size ≤ 1099511627776) :
    Calls Tryd.prog 24 #[.string s] w fun e w' => ∃ v, e = .returned v ∧ w'.ownsRow (w.heap.size + 1) 47 3 v (marks s.size s.data.toList 0).length (runeCells (marks s.size s.data.toList 0)) ∧ Ext w w' := by
  obtain ⟨i0, hi, hz0, hz1, hz2⟩ := info_parts Tryd.infoR
  go_enter Tryd.func24, Tryd.ntmps24
  go_wp2
  go_loopw [3, 4, 5] (fun v _ _ w' => ∃ pos : Nat, w'.heap[w.heap.size]? = some (.stringIter s pos) ∧ pos ≤ s.size ∧ Ext w w' ∧ (s.size = 0 ∧ v = .slice none 0 0 ∨ Come s pos w w' v)) (fun _ _ _ w' => s.size - w'.iterPos w.heap.size)
  case atStart =>
    refine ⟨0, World.iter_heap w s 0, by omega, (Ext.refl w).iter s 0, ?_⟩
    by_cases h : s.size = 0
    · exact .inl ⟨h, rfl⟩
    · exact .inr (.inl ⟨rfl, rfl, by omega⟩)
  case round =>
    obtain ⟨pos, hit, hp, hx, hcome⟩ := hrel
    have hpos := iterPos_of hit
    by_cases hlt : pos < s.size
    · have hnx : ∀ ty, (Instr.next (.pointer (some ⟨w.heap.size, 0, none⟩)) true ty).run Tryd.prog wr = _ := fun ty => Lib.run_next_any_at wr w.heap.size s pos ty hit hlt
      rcases hcome with ⟨h0, _⟩ | ⟨rfl, rfl, h0⟩ | ⟨p0, r, p, f, hM, hf, hl, hown⟩
      · omega
      · have hdec := decode_le s 0
        go_wp2_with (at_builtin; refine wpList_append_own _ rfl (.tmp 22) (.tmp 28) 44 rfl (w.heap.size + 1) 47 i0 (.agg #[.int .i32 0, .int .i64 0, .int .i64 0]) 3 24 Tryd.underlying44 hi hz0 hz1 hz2 rfl (by decide) _ 0 [] rfl (World.ownsRow_nil _ _ _ _) ⟨_, 0, none⟩ 1 1 [.int .i32 ((Utf8.decode s 0).1 : Nat), .int .i64 ((0 : Nat) : Int), .int .i64 (s.size : Nat)] rfl rfl ?d1 ?d2 ?d3 ?d4 ?d5 ?_)
        case d1 => exact cell3_newR _ _ _ _ _
        case d2 => simp [Value.oneCell']
        case d3 => unfold maxLen; omega
        case d4 => omega
        case d5 => have := blk_lt hit; simp [Lib.iterAt_size]; omega
        intro v' w' hown' hgrow _
        have hcome := come_first s h0 w w' v' hown'
        rw [Nat.zero_add] at hcome
        have hE0 : Ext w (((wr.iterAt w.heap.size s (Utf8.decode s 0).2)).alloc (.cells #[.int .i32 ((Utf8.decode s 0).1 : Nat), .int .i64 0, .int .i64 (s.size : Nat)] 47)) :=
          Ext.alloc (Lib.below_iterAt hx (Nat.le_refl _) s _) _
        have hE : Ext w w' := Below.grown hE0 hgrow hE0.sz (fun k hk => by cases hk)
        have hI0 : (((wr.iterAt w.heap.size s (Utf8.decode s 0).2)).alloc (.cells #[.int .i32 ((Utf8.decode s 0).1 : Nat), .int .i64 0, .int .i64 (s.size : Nat)] 47)).heap[w.heap.size]? = some (.stringIter s (Utf8.decode s 0).2) := by
          have h1 := blk_lt hit
          rw [Below.heap_alloc _ _ _ (by simp [Lib.iterAt_size]; omega)]
          exact Lib.iterAt_heap wr _ s 0 _ hit
        have hI : w'.heap[w.heap.size]? = some (.stringIter s (Utf8.decode s 0).2) := by
          rw [hgrow.block _ (blk_lt hI0) (fun hk => by cases hk)]
          exact hI0
        have hw := widAt_le s 0 hlt
        have hw2 := widAt_pos s 0
        unfold widAt at hw hw2
        rw [Nat.zero_add] at hw
        have hp' := iterPos_of hI
        clear hown' hgrow hE0
        go_wp2_with fail
        go_roundw
        case rel => exact ⟨_, hI, hw, hE, .inr hcome⟩
        case measure => rw [hp', hpos]; omega
      · obtain ⟨g, cap, rfl⟩ := ownsRow_succ hown
        have HM := Lib.hid hM
        clear hM
        have hown1 := ownsRow_iterAt hown (Nat.lt_succ_self w.heap.size) s (pos + (Utf8.decode s pos).2)
        have hcell := hown1.cellAt (p0.length * 3 + 2) (by omega)
        rw [runeCells_append] at hcell
        have hlen := runeCells_length p0
        rw [List.getElem?_append_right (by omega), hlen] at hcell
        have hcell' : (wr.iterAt w.heap.size s (pos + (Utf8.decode s pos).2)).cell? ⟨g, p0.length * 3 + 2, none⟩ = some (.int .i64 (s.size : Nat)) := by rw [hcell, show p0.length * 3 + 2 - p0.length * 3 = 2 from by omega]; rfl
        have hfro := hown1.frozenAt (p0.length * 3 + 2)
        clear hcell hlen
        have hst := (hown1.stored (p0.length * 3 + 2) (.int .i64 (pos : Nat))).1
        have hdec := decode_le s pos
        go_wp2_with (at_builtin; refine wpList_append_own _ rfl (.tmp 22) (.tmp 28) 44 rfl (w.heap.size + 1) 47 i0 (.agg #[.int .i32 0, .int .i64 0, .int .i64 0]) 3 24 Tryd.underlying44 hi hz0 hz1 hz2 rfl (by decide) _ _ _ rfl (hst.alloc _) ⟨_, 0, none⟩ 1 1 [.int .i32 ((Utf8.decode s pos).1 : Nat), .int .i64 (pos : Nat), .int .i64 (s.size : Nat)] rfl rfl ?c1 ?c2 ?c3 ?c4 ?c5 ?_)
        case c1 =>
          have h3 := cell3_newR ((wr.iterAt w.heap.size s (pos + (Utf8.decode s pos).2)).setCell ⟨g, p0.length * 3 + 2, none⟩ (.int .i64 (pos : Nat))) (.int .i32 ((Utf8.decode s pos).1 : Nat)) (.int .i64 (pos : Nat)) (.int .i64 (s.size : Nat)) 47
          rw [World.size_setCell] at h3
          exact h3
        case c2 => simp [Value.oneCell']
        case c3 => unfold maxLen; omega
        case c4 => omega
        case c5 => have := hx.sz; simp [Lib.iterAt_size]; omega
        intro v' w' hown' hgrow _
        have hcome := come_next s pos hlt w w' v' p0 r p f HM.out hf hl hown'
        have hgl := hown.lt g rfl
        have hE0 : Ext w ((((wr.iterAt w.heap.size s (pos + (Utf8.decode s pos).2)).setCell ⟨g, p0.length * 3 + 2, none⟩ (.int .i64 (pos : Nat))).alloc (.cells #[.int .i32 ((Utf8.decode s pos).1 : Nat), .int .i64 (pos : Nat), .int .i64 (s.size : Nat)] 47))) :=
          Ext.alloc (Ext.setCell (Lib.below_iterAt hx (Nat.le_refl _) s _) (by show w.heap.size ≤ g; omega) _) _
        have hrow : ∀ k, (Value.slice (some ⟨g, 0, none⟩) (p0.length + 1) cap).ownBlock = some k → w.heap.size ≤ k := by
          intro k hk
          have hgk : g = k := by simpa [Value.ownBlock] using hk
          omega
        have hrow2 : (Value.slice (some ⟨g, 0, none⟩) (p0.length + 1) cap).ownBlock ≠ some w.heap.size := by
          intro hk
          have hgk : g = w.heap.size := by simpa [Value.ownBlock] using hk
          omega
        have hE : Ext w w' := Below.grown hE0 hgrow hE0.sz hrow
        have hI0 : ((((wr.iterAt w.heap.size s (pos + (Utf8.decode s pos).2)).setCell ⟨g, p0.length * 3 + 2, none⟩ (.int .i64 (pos : Nat))).alloc (.cells #[.int .i32 ((Utf8.decode s pos).1 : Nat), .int .i64 (pos : Nat), .int .i64 (s.size : Nat)] 47))).heap[w.heap.size]? = some (.stringIter s (pos + (Utf8.decode s pos).2)) := by
          have h1 := blk_lt hit
          rw [Below.heap_alloc _ _ _ (by simp [Lib.iterAt_size]; omega), Below.heap_setCell _ _ _ _ (by show w.heap.size ≠ g; omega)]
          exact Lib.iterAt_heap wr _ s pos _ hit
        have hI : w'.heap[w.heap.size]? = some (.stringIter s (pos + (Utf8.decode s pos).2)) := by
          rw [hgrow.block _ (blk_lt hI0) (fun hk => hrow2 hk.symm)]
          exact hI0
        have hw := widAt_le s pos hlt
        have hw2 := widAt_pos s pos
        unfold widAt at hw hw2
        have hp' := iterPos_of hI
        clear hown' hgrow hE0
        go_wp2_with fail
        go_roundw
        case rel => exact ⟨_, hI, hw, hE, .inr hcome⟩
        case measure => rw [hp', hpos]; omega
    · have hnx : ∀ ty, (Instr.next (.pointer (some ⟨w.heap.size, 0, none⟩)) true ty).run Tryd.prog wr = _ := fun ty => Lib.run_next_end_at wr w.heap.size s pos ty hit hlt
      rcases hcome with ⟨h0, rfl⟩ | ⟨rfl, rfl, h0⟩ | ⟨p0, r, p, f, hM, hf, hl, hown⟩
      · go_wp2_with fail
        refine ret_one rfl rfl rfl ⟨_, rfl, ?_, hx⟩
        have e : s.data.toList = [] := by
          have := len_eq s
          rw [h0] at this
          exact List.length_eq_zero_iff.1 this
        rw [e, marks_nil]
        exact World.ownsRow_nil _ _ _ _
      · omega
      · have e : s.data.toList.drop pos = [] := List.drop_of_length_le (by rw [len_eq]; omega)
        rw [e, marks_nil] at hM
        have HM := Lib.hid hM
        have HP := Lib.hid (show pos = s.size by omega)
        clear hM e
        go_wp2_with fail
        refine ret_one rfl rfl rfl ⟨_, rfl, ?_, hx⟩
        rw [HM.out, HP.out]
        simpa using hown
/-- The faulty bytes. -/
def fbs (l : List UInt8) (M : List (Nat × Nat × Nat)) : List UInt8 := M.filterMap fun m => if m.1 = 65533 ∧ m.2.2 - m.2.1 = 1 then l[m.2.1]? else none
theorem fbs_marks : ∀ (n : Nat) (a b : List UInt8), b.length ≤ n → (fbs (a ++ b) (marks n b a.length)).map (fun c => ((c.toNat : Nat) : Int)) = fs (rawOf b) := by
  intro n
  induction n with
  | zero =>
    intro a b h
    obtain rfl : b = [] := List.length_eq_zero_iff.1 (by omega)
    rfl
  | succ n ih =>
    intro a b h
    by_cases hb : b = []
    · subst hb; rfl
    · have hp := wid_pos b
      have hw := wid_le b hb
      have e : a ++ b = (a ++ b.take (wid b)) ++ b.drop (wid b) := by rw [List.append_assoc, List.take_append_drop]
      have hl : (a ++ b.take (wid b)).length = a.length + wid b := by rw [List.length_append, List.length_take]; omega
      have h1 := ih (a ++ b.take (wid b)) (b.drop (wid b)) (by rw [List.length_drop]; omega)
      rw [← e, hl] at h1
      rw [marks_step _ _ _ hb, rawOf_step b hb]
      unfold fbs at h1 ⊢
      rw [List.filterMap_cons]
      by_cases hc : run b = 65533 ∧ wid b = 1
      · obtain ⟨c, t, rfl⟩ : ∃ c t, b = c :: t := by cases b with
          | nil => exact absurd rfl hb
          | cons c t => exact ⟨c, t, rfl⟩
        rw [if_pos hc, fs_bad, if_pos ⟨hc.1, by show a.length + wid (c :: t) - a.length = 1; omega⟩]
        rw [List.getElem?_append_right (Nat.le_refl _), Nat.sub_self, List.getElem?_cons_zero]
        simp only [List.map_cons, h1, List.getD_cons_zero]
      · rw [if_neg hc, fs_rune, if_neg (fun h => hc ⟨h.1, by have := h.2; simp only at this; omega⟩)]
        exact h1
theorem runeCells_get (l : List (Nat × Nat × Nat)) : ∀ (i : Nat) (h : i < l.length), (runeCells l)[i * 3]? = some (.int .i32 (l[i].1 : Nat)) ∧ (runeCells l)[i * 3 + 1]? = some (.int .i64 (l[i].2.1 : Nat)) ∧ (runeCells l)[i * 3 + 2]? = some (.int .i64 (l[i].2.2 : Nat)) := by
  induction l with
  | nil => intro i h; simp at h
  | cons x t ih =>
    intro i h
    obtain ⟨r, p, q⟩ := x
    cases i with
    | zero => simp [runeCells]
    | succ i =>
      obtain ⟨h1, h2, h3⟩ := ih i (by simpa using h)
      refine ⟨?_, ?_, ?_⟩
      · rw [show (i + 1) * 3 = i * 3 + 1 + 1 + 1 by omega]; simpa [runeCells] using h1
      · rw [show (i + 1) * 3 + 1 = (i * 3 + 1) + 1 + 1 + 1 by omega]; simpa [runeCells] using h2
      · rw [show (i + 1) * 3 + 2 = (i * 3 + 2) + 1 + 1 + 1 by omega]; simpa [runeCells] using h3
theorem marks_mem (n : Nat) : ∀ (l : List UInt8) (p : Nat), ∀ m ∈ marks n l p, p ≤ m.2.1 ∧ m.2.1 < m.2.2 ∧ m.2.2 ≤ p + l.length := by
  induction n with
  | zero => intro l p m hm; cases hm
  | succ n ih =>
    intro l p m hm
    by_cases h : l = []
    · subst h; cases hm
    · rw [marks_step _ _ _ h] at hm
      have hp := wid_pos l
      have hw := wid_le l h
      rcases List.mem_cons.1 hm with rfl | hm
      · exact ⟨Nat.le_refl _, by show p < p + wid l; omega, by show p + wid l ≤ _; omega⟩
      · have := ih _ _ m hm
        rw [List.length_drop] at this
        omega
theorem marks_len (n : Nat) : ∀ (l : List UInt8) (p : Nat), (marks n l p).length ≤ l.length := by
  induction n with
  | zero => intro l p; exact Nat.zero_le _
  | succ n ih =>
    intro l p
    by_cases h : l = []
    · subst h; exact Nat.le_refl _
    · rw [marks_step _ _ _ h]
      have hp := wid_pos l
      have hw := wid_le l h
      have := ih (l.drop (wid l)) (p + wid l)
      rw [List.length_drop] at this
      rw [List.length_cons]; omega
theorem fbs_take (l : List UInt8) (M : List (Nat × Nat × Nat)) (i : Nat) (h : i < M.length) : fbs l (M.take (i + 1)) = fbs l (M.take i) ++ fbs l [M[i]] := by
  unfold fbs
  rw [List.take_add_one, List.getElem?_eq_getElem h, Option.toList_some, List.filterMap_append]
theorem fbs_len (l : List UInt8) (M : List (Nat × Nat × Nat)) : (fbs l M).length ≤ M.length := List.length_filterMap_le _ _
set_option maxRecDepth 100000 in
set_option maxHeartbeats 8000000 in
theorem c_faults (s : ByteArray) (w : World) (hs : s.size ≤ 1000000) :
    Calls Tryd.prog 11 #[.string s] w fun e w' => ∃ v B, e = .returned v ∧ w'.ownsRow B 5 1 v (fbs s.data.toList (marks s.size s.data.toList 0)).length (Lib.byteCells (fbs s.data.toList (marks s.size s.data.toList 0))) ∧ Ext w w' := by
  obtain ⟨i0, hi0, hz0, hz1, hz3⟩ := info_parts info_u8
  have HR := Lib.hid (c_SRunes s w (by omega))
  obtain ⟨M, hM⟩ : ∃ M, marks s.size s.data.toList 0 = M := ⟨_, rfl⟩
  have HM := Lib.hid (show M.length ≤ 1000000 ∧ ∀ m ∈ M, m.2.1 < m.2.2 ∧ m.2.2 ≤ s.size from by
    refine ⟨?_, fun m hm => ?_⟩
    · have := marks_len s.size s.data.toList 0
      rw [hM, len_eq] at this; omega
    · rw [← hM] at hm
      have := marks_mem _ _ _ m hm
      rw [len_eq] at this; omega)
  rw [hM] at HR ⊢
  clear hM
  go_enter Tryd.func11, Tryd.ntmps11
  go_wp2_with fail
  refine HR.out.mono ?_
  rintro e w1 ⟨v1, rfl, hrow, hx1⟩
  obtain ⟨p1, c1, rfl⟩ := own_slice hrow
  have HX1 := Lib.hid hx1
  have hml : ((M.length : Nat) : Int) ≤ 1000000 := by have := HM.out.1; omega
  clear hx1 HR
  go_wp2_with fail
  go_loopw [3, 5] (fun bv iv W => ∃ i : Nat, iv = .int .i64 (i : Nat) ∧ i ≤ M.length ∧ W.ownsRow w1.heap.size 5 1 bv (fbs s.data.toList (M.take i)).length (Lib.byteCells (fbs s.data.toList (M.take i))) ∧ Ext w1 W) (fun _ iv _ => M.length + 1 - (intOf iv).toNat)
  case atStart => exact ⟨0, rfl, by omega, World.ownsRow_nil _ _ _ _, Ext.refl _⟩
  case round =>
    obtain ⟨i, rfl, hi, hown, hx⟩ := hrel
    have HO := Lib.hid (And.intro hown hx)
    by_cases hlt : i < M.length
    · have hd : decide (i < M.length) = true := decide_eq_true hlt
      have hI : ((i : Nat) : Int) < (M.length : Nat) := by omega
      obtain ⟨g, hpe, _, _, hgc⟩ := own_at hrow (by omega)
      subst hpe
      obtain ⟨a0, a1, a2⟩ := runeCells_get M i hlt
      have hft := fbs_take s.data.toList M i hlt
      have hmm := HM.out.2 _ (List.getElem_mem hlt)
      have y0 : ∀ w', EOn (fun _ => True) wr w' → w'.cell? ⟨g, i * 3, none⟩ = some (.int .i32 (M[i].1 : Nat)) := fun w' h => h.cell trivial (hx.cell ((hgc (i * 3) (by omega)).trans a0))
      have y1 : ∀ w', EOn (fun _ => True) wr w' → w'.cell? ⟨g, i * 3 + 1, none⟩ = some (.int .i64 (M[i].2.1 : Nat)) := fun w' h => h.cell trivial (hx.cell ((hgc (i * 3 + 1) (by omega)).trans a1))
      have y2 : ∀ w', EOn (fun _ => True) wr w' → w'.cell? ⟨g, i * 3 + 2, none⟩ = some (.int .i64 (M[i].2.2 : Nat)) := fun w' h => h.cell trivial (hx.cell ((hgc (i * 3 + 2) (by omega)).trans a2))
      clear a0 a1 a2
      generalize M[i] = m at hft hmm y0 y1 y2
      obtain ⟨r, p, q⟩ := m
      simp only at hft hmm y0 y1 y2
      have HFT := Lib.hid (And.intro hft (And.intro hmm hlt))
      have hqp : ((q : Nat) : Int) - ((p : Nat) : Int) ≤ 1000000 := by omega
      have hqp0 : 0 ≤ ((q : Nat) : Int) - ((p : Nat) : Int) := by omega
      have hps : ((p : Nat) : Int) < (s.size : Nat) := by omega
      clear hft hown hx
      by_cases hr : r = 65533
      · have hre : (((r : Nat) : Int) == 65533) = true := by simp; omega
        by_cases hq : q - p = 1
        · have hqe : ((((q : Nat) : Int) - ((p : Nat) : Int)) == 1) = true := by simp; omega
          have hby : ∀ h : p < s.size, s[p]'h = s.data.toList.getD p 0 := fun h => by
            have e : s[p]'h = s.data.toList[p]'(by rw [len_eq]; exact h) := rfl
            rw [e]; simp
            rw [Array.getElem?_eq_getElem h]; rfl
          have hbz : ∀ h : p < s.size, s[p]'h = s.data[p]?.getD 0 := fun h => by rw [Array.getElem?_eq_getElem h]; rfl
          have HFB := Lib.hid (show fbs s.data.toList [(r, p, q)] = [s.data.toList.getD p 0] by
            have hlp : p < s.data.toList.length := by rw [len_eq]; omega
            unfold fbs
            rw [List.filterMap_cons, if_pos ⟨hr, hq⟩, List.getElem?_eq_getElem hlp]
            have hlp' : p < s.data.size := by omega
            simp
            rw [Array.getElem?_eq_getElem hlp']; rfl)
          have HFL := Lib.hid (show (fbs s.data.toList (List.take i M)).length ≤ 1000000 by
            have := fbs_len s.data.toList (List.take i M)
            rw [List.length_take] at this
            have := HM.out.1
            omega)
          clear hmm
          go_wp2_with fail
          refine wp_lex (fun _ => True) [true, true, true, true, true, true, true, true, true, true, true, true, true, true, true, true, true, true, true, true] (by kernel_rfl) (by kernel_rfl) ?_
          repeat first
            | refine wpG_move (by rfl) (by simp only [Act.eval, Array.getD_eq_getD_getElem?, List.getElem?_toArray, List.getElem?_cons_succ, List.getElem?_cons_zero, Option.getD_some]; try rfl) (by simp only [Act.put, List.setIfInBounds_toArray, List.set_cons_succ, List.set_cons_zero]; rfl) ?_
            | refine wpG_assign (by rfl) (by simp only [Act.eval, Array.getD_eq_getD_getElem?, List.getElem?_toArray, List.getElem?_cons_succ, List.getElem?_cons_zero, Option.getD_some]; try rfl) (by simp only [Act.put, List.setIfInBounds_toArray, List.set_cons_succ, List.set_cons_zero]; rfl) ?_
            | refine wpG_val (by rfl) (fun w' hx => (by go_simp; first | (go_bits; first | exact rfl | exact ⟨by omega, rfl⟩) | exact rfl | exact (if_neg (by omega)).trans rfl | exact ⟨by omega, rfl⟩)) (by simp only [Act.put, List.setIfInBounds_toArray, List.set_cons_succ, List.set_cons_zero]; rfl) ?_
            | refine wpG_no (by rfl) (by simp only [Act.put, List.setIfInBounds_toArray, List.set_cons_succ, List.set_cons_zero]; rfl) ?_
          refine wpG_end (fun w5 hx5 => ?_)
          have c1' := y1 w5 (EOn.of_ext hx5)
          clear y0 y1 y2 hre hqe
          have hown5 := ownsRow_ext HO.out.1 hx5
          have hx5' := HO.out.2.trans hx5
          clear hx5
          go_wp2_with fail
          refine gQ_normal ?_
          go_wp2_with (at_builtin; refine wpList_append_own _ rfl _ _ 26 rfl w1.heap.size 5 i0 (.int .u8 0) 1 1 Tryd.underlying26 hi0 hz0 hz1 hz3 rfl (by decide) _ _ _ rfl (hown5.alloc _) ⟨w5.heap.size, 0, none⟩ 1 1 [.int .u8 ((s.data.toList.getD p 0).toNat : Nat)] rfl rfl ?c1 ?c2 ?c3 ?c4 ?c5 ?_)
          case c1 =>
            rw [← hby (by omega)]
            intro j u hj
            match j, hj with
            | 0, hj => simp at hj; subst hj; simp [Addr.add, hbz (show p < s.size by omega)]
          case c2 => intro u hu; simp at hu; subst hu; rfl
          case c3 => have := HFL.out; unfold maxLen; omega
          case c4 => have := HFL.out; omega
          case c5 => have := hx5'.sz; simp; omega
          intro v' w6 hown6 hgrow6 _
          have hx6 := Below.grown (hx5'.alloc (.cells #[.int .u8 (s.data[p]?.getD 0).toNat] 5)) hgrow6 (by have := hx5'.sz; simp; omega) (fun k e => (hown5.lt k e).1)
          have HO6 := Lib.hid (And.intro hown6 hx6)
          clear hown6 hx6 hgrow6 hown5 hx5' hby hbz
          go_wp2_with fail
          refine ⟨⟨i + 1, by simp, by have := HFT.out.2.2; omega, ?_, HO6.out.2⟩, by have := HFT.out.2.2; simp [intOf]; omega⟩
          rw [HFT.out.1, HFB.out]
          have := HO6.out.1
          rw [List.length_append]
          simpa [Lib.byteCells] using this
        · have hqe : ((((q : Nat) : Int) - ((p : Nat) : Int)) == 1) = false := by simp; omega
          clear hmm
          go_wp2_with fail
          refine wp_lex (fun _ => True) [true, true, true, true, true, true, true, true, true, true, true, true, true, true, true, true, true, true, true, true] (by kernel_rfl) (by kernel_rfl) ?_
          repeat first
            | refine wpG_move (by rfl) (by simp only [Act.eval, Array.getD_eq_getD_getElem?, List.getElem?_toArray, List.getElem?_cons_succ, List.getElem?_cons_zero, Option.getD_some]; try rfl) (by simp only [Act.put, List.setIfInBounds_toArray, List.set_cons_succ, List.set_cons_zero]; rfl) ?_
            | refine wpG_assign (by rfl) (by simp only [Act.eval, Array.getD_eq_getD_getElem?, List.getElem?_toArray, List.getElem?_cons_succ, List.getElem?_cons_zero, Option.getD_some]; try rfl) (by simp only [Act.put, List.setIfInBounds_toArray, List.set_cons_succ, List.set_cons_zero]; rfl) ?_
            | refine wpG_val (by rfl) (fun w' hx => (by go_simp; first | (go_bits; first | exact rfl | exact ⟨by omega, rfl⟩) | exact rfl | exact (if_neg (by omega)).trans rfl | exact ⟨by omega, rfl⟩)) (by simp only [Act.put, List.setIfInBounds_toArray, List.set_cons_succ, List.set_cons_zero]; rfl) ?_
            | refine wpG_no (by rfl) (by simp only [Act.put, List.setIfInBounds_toArray, List.set_cons_succ, List.set_cons_zero]; rfl) ?_
          refine wpG_end (fun w5 hx5 => ?_)
          clear y0 y1 y2
          have HO5 := Lib.hid (And.intro (ownsRow_ext HO.out.1 hx5) (HO.out.2.trans hx5))
          clear hx5
          go_wp2_with fail
          refine gQ_normal ?_
          go_wp2_with fail
          exact ⟨⟨i + 1, by simp, by have := HFT.out.2.2; omega, by rw [HFT.out.1, show fbs s.data.toList [(r, p, q)] = [] from by simp [fbs, hq]]; simpa using HO5.out.1, HO5.out.2⟩, by have := HFT.out.2.2; simp [intOf]; omega⟩
      · have hre : (((r : Nat) : Int) == 65533) = false := by simp; omega
        clear hmm
        go_wp2_with fail
        refine wp_lex (fun _ => True) [true, true, true, true, true, true, true, true, true, true, true, true, true, true, true, true, true, true, true, true] (by kernel_rfl) (by kernel_rfl) ?_
        repeat first
          | refine wpG_move (by rfl) (by simp only [Act.eval, Array.getD_eq_getD_getElem?, List.getElem?_toArray, List.getElem?_cons_succ, List.getElem?_cons_zero, Option.getD_some]; try rfl) (by simp only [Act.put, List.setIfInBounds_toArray, List.set_cons_succ, List.set_cons_zero]; rfl) ?_
          | refine wpG_assign (by rfl) (by simp only [Act.eval, Array.getD_eq_getD_getElem?, List.getElem?_toArray, List.getElem?_cons_succ, List.getElem?_cons_zero, Option.getD_some]; try rfl) (by simp only [Act.put, List.setIfInBounds_toArray, List.set_cons_succ, List.set_cons_zero]; rfl) ?_
          | refine wpG_val (by rfl) (fun w' hx => (by go_simp; first | (go_bits; first | exact rfl | exact ⟨by omega, rfl⟩) | exact rfl | exact (if_neg (by omega)).trans rfl | exact ⟨by omega, rfl⟩)) (by simp only [Act.put, List.setIfInBounds_toArray, List.set_cons_succ, List.set_cons_zero]; rfl) ?_
          | refine wpG_no (by rfl) (by simp only [Act.put, List.setIfInBounds_toArray, List.set_cons_succ, List.set_cons_zero]; rfl) ?_
        refine wpG_end (fun w5 hx5 => ?_)
        clear y0 y1 y2
        have HO5 := Lib.hid (And.intro (ownsRow_ext HO.out.1 hx5) (HO.out.2.trans hx5))
        clear hx5
        go_wp2_with fail
        refine gQ_normal ?_
        go_wp2_with fail
        exact ⟨⟨i + 1, by simp, by have := HFT.out.2.2; omega, by rw [HFT.out.1, show fbs s.data.toList [(r, p, q)] = [] from by simp [fbs, hr]]; simpa using HO5.out.1, HO5.out.2⟩, by have := HFT.out.2.2; simp [intOf]; omega⟩
    · have hd : decide (i < M.length) = false := decide_eq_false hlt
      have hI : ¬ ((i : Nat) : Int) < (M.length : Nat) := by omega
      obtain rfl : i = M.length := by omega
      clear hown hx
      go_wp2_with fail
      go_ret
      have h := HO.out.1
      rw [List.take_length] at h
      exact ⟨_, rfl, ⟨_, h⟩, HX1.out.trans HO.out.2⟩
theorem fs_formT (f : Int) (s : List UInt8) : fs (rawOf (formT f s)) = fs (rawOf s) := by
  unfold formT
  split
  · exact fs_form tbT_ok _ _ _
  · rfl
theorem formT_plain (f : Int) {s : List UInt8} (h : ∀ c ∈ s, c.toNat < 128) : formT f s = s := by
  unfold formT
  split
  · exact form_plain tbT_ok _ _ h
  · rfl
/-- The faulty bytes of the whole. -/
def fbsOf (l : List UInt8) : List UInt8 := fbs l (marks l.length l 0)
theorem fbsOf_form (f : Int) (s : List UInt8) : fbsOf (formT f s) = fbsOf s := by
  have h : ∀ l : List UInt8, (fbsOf l).map (fun c => ((c.toNat : Nat) : Int)) = fs (rawOf l) := fun l => fbs_marks l.length [] l (Nat.le_refl _)
  have e := (h (formT f s)).trans ((fs_formT f s).trans (h s).symm)
  refine List.map_inj_right (fun a b hab => ?_) |>.1 e
  have : a.toNat = b.toNat := by omega
  exact UInt8.toNat_inj.1 this
theorem conv_row {W : World} {B : Nat} {v : Value} {F : List UInt8} (h : W.ownsRow B 5 1 v F.length (Lib.byteCells F)) : ∀ w', EOn (fun _ => True) W w' → (convert 26 9 v).run Tryd.prog w' = .ok (.string ⟨F.toArray⟩) w' := fun w' hx => by
  obtain ⟨p, c, rfl⟩ := own_slice h
  by_cases h0 : F = []
  · subst h0
    rcases h.2 with ⟨e, _⟩ | ⟨g, cap', cur, e, _⟩
    · cases e
      exact run_convert_bytes_nil (P := Tryd.prog) w' 26 5 Tryd.underlying26 Tryd.underlying5 _ _ _ Tryd.underlying9
    · cases e
      exact run_convert_bytes_back (P := Tryd.prog) w' 26 9 5 _ _ [] Tryd.underlying26 Tryd.underlying5 Tryd.underlying9 (fun j hj => by cases hj)
  · have hl : 0 < F.length := List.length_pos_iff.2 h0
    obtain ⟨g, rfl, _, _, hg⟩ := own_at h hl
    exact run_convert_bytes_back (P := Tryd.prog) w' 26 9 5 ⟨g, 0, none⟩ c F Tryd.underlying26 Tryd.underlying5 Tryd.underlying9 (fun j hj => by
      have hadd : (⟨g, 0, none⟩ : Addr).add j = ⟨g, j, none⟩ := by unfold Addr.add; split <;> simp_all
      rw [hadd]
      refine hx.cell trivial ((hg j (by omega)).trans ?_)
      simp [Lib.byteCells, List.getElem?_eq_getElem hj])
set_option maxRecDepth 100000 in
set_option maxHeartbeats 8000000 in
theorem c_Faults (s : ByteArray) (f : Int) (w : World) (hT : Tabs w) : Calls Tryd.prog 4 #[.string s, .int .i64 f] w fun e w' => e = .returned (.bool true) ∧ Ext w w' := by
  by_cases hs : s.size ≤ 90
  · have hsI : ¬ (90 : Int) < (s.size : Nat) := by omega
    have hs9 : ((s.size : Nat) : Int) ≤ 90 := by omega
    obtain ⟨z, hz⟩ : ∃ x : ByteArray, (⟨(formT f s.data.toList).toArray⟩ : ByteArray) = x := ⟨_, rfl⟩
    have hzl : z.data.toList = formT f s.data.toList := by rw [← hz]
    have hzs : z.size ≤ 7200 := by
      have := formT_len f s.data.toList
      rw [← hzl, len_eq, len_eq] at this
      omega
    have H1 := Lib.hid (show Calls Tryd.prog 9 #[.string s, .int .i64 f] w fun e w' => e = .returned (.string z) ∧ Ext w w' by rw [← hz]; exact c_Form s f w hT (by omega))
    have H2 := Lib.hid (fun w2 => c_faults s w2 (by omega))
    have H3 := Lib.hid (fun w2 => c_faults z w2 (by omega))
    have e2 : fbs s.data.toList (marks s.size s.data.toList 0) = fbsOf s.data.toList := by unfold fbsOf; rw [len_eq]
    have e3 : fbs z.data.toList (marks z.size z.data.toList 0) = fbsOf s.data.toList := by rw [← fbsOf_form f, ← hzl]; unfold fbsOf; rw [len_eq]
    rw [e2] at H2
    rw [e3] at H3
    have hpl : (∀ c ∈ s.data.toList, c.toNat < 128) → z = s := fun h => by
      rw [← hz, formT_plain f h]
    have HS := Lib.hid (And.intro hs hpl)
    clear hs hpl e2 e3 hzs hzl hz
    generalize fbsOf s.data.toList = F at H2 H3
    go_enter Tryd.func4, Tryd.ntmps4
    go_wp2_with fail
    refine H1.out.mono ?_
    rintro e w1 ⟨rfl, hx1⟩
    have HX1 := Lib.hid hx1
    clear hx1
    go_wp2_with fail
    refine wp_perm (fun _ => True) [0, 3, 1, 2, 4, 5, 6] [true, true, false, true, false, true, true] (by kernel_rfl) (by kernel_rfl) (by simp only [List.map_cons, List.map_nil, nth]; rfl) ?_
    repeat first
      | refine wpG_move (by rfl) (by simp only [Act.eval, Array.getD_eq_getD_getElem?, List.getElem?_toArray, List.getElem?_cons_succ, List.getElem?_cons_zero, Option.getD_some]; try rfl) (by simp only [Act.put, List.setIfInBounds_toArray, List.set_cons_succ, List.set_cons_zero]; rfl) ?_
      | refine wpG_assign (by rfl) (by simp only [Act.eval, Array.getD_eq_getD_getElem?, List.getElem?_toArray, List.getElem?_cons_succ, List.getElem?_cons_zero, Option.getD_some]; try rfl) (by simp only [Act.put, List.setIfInBounds_toArray, List.set_cons_succ, List.set_cons_zero]; rfl) ?_
      | refine wpG_val (by rfl) (fun w' hx => (by go_simp; first | (go_bits; first | exact rfl | exact ⟨by omega, rfl⟩) | exact rfl | exact (if_neg (by omega)).trans rfl | exact ⟨by omega, rfl⟩)) (by simp only [Act.put, List.setIfInBounds_toArray, List.set_cons_succ, List.set_cons_zero]; rfl) ?_
      | refine wpG_no (by rfl) (by simp only [Act.put, List.setIfInBounds_toArray, List.set_cons_succ, List.set_cons_zero]; rfl) ?_
    refine wpG_do (by rfl) (fun w12 hx12 K hK => ?_)
    go_wp2_with fail
    refine (H2.out w12).mono ?_
    rintro e w13 ⟨v2, B2, rfl, hrow2, hx13⟩
    refine hK _ _ ⟨EOn.of_ext hx13, ?_⟩
    clear hK
    have HX13 := Lib.hid (HX1.out.trans (hx12.trans hx13))
    have hcv2 := conv_row hrow2
    clear hx12 hx13 hrow2
    repeat first
      | refine wpG_move (by rfl) (by simp only [Act.eval, Array.getD_eq_getD_getElem?, List.getElem?_toArray, List.getElem?_cons_succ, List.getElem?_cons_zero, Option.getD_some]; try rfl) (by simp only [Act.put, List.setIfInBounds_toArray, List.set_cons_succ, List.set_cons_zero]; rfl) ?_
      | refine wpG_assign (by rfl) (by simp only [Act.eval, Array.getD_eq_getD_getElem?, List.getElem?_toArray, List.getElem?_cons_succ, List.getElem?_cons_zero, Option.getD_some]; try rfl) (by simp only [Act.put, List.setIfInBounds_toArray, List.set_cons_succ, List.set_cons_zero]; rfl) ?_
      | refine wpG_val (by rfl) (fun w' hx => (by go_simp; first | (go_bits; first | exact rfl | exact ⟨by omega, rfl⟩) | exact rfl | exact (if_neg (by omega)).trans rfl | exact ⟨by omega, rfl⟩)) (by simp only [Act.put, List.setIfInBounds_toArray, List.set_cons_succ, List.set_cons_zero]; rfl) ?_
      | refine wpG_no (by rfl) (by simp only [Act.put, List.setIfInBounds_toArray, List.set_cons_succ, List.set_cons_zero]; rfl) ?_
    refine wpG_do (by rfl) (fun w14 hx14 K hK => ?_)
    go_wp2_with fail
    refine (H3.out w14).mono ?_
    rintro e w15 ⟨v3, B3, rfl, hrow3, hx15⟩
    refine hK _ _ ⟨EOn.of_ext hx15, ?_⟩
    clear hK
    have HX15 := Lib.hid (HX13.out.trans (hx14.trans hx15))
    have hcv3 := conv_row hrow3
    clear hx14 hx15 hrow3 hcv2
    repeat first
      | refine wpG_move (by rfl) (by simp only [Act.eval, Array.getD_eq_getD_getElem?, List.getElem?_toArray, List.getElem?_cons_succ, List.getElem?_cons_zero, Option.getD_some]; try rfl) (by simp only [Act.put, List.setIfInBounds_toArray, List.set_cons_succ, List.set_cons_zero]; rfl) ?_
      | refine wpG_assign (by rfl) (by simp only [Act.eval, Array.getD_eq_getD_getElem?, List.getElem?_toArray, List.getElem?_cons_succ, List.getElem?_cons_zero, Option.getD_some]; try rfl) (by simp only [Act.put, List.setIfInBounds_toArray, List.set_cons_succ, List.set_cons_zero]; rfl) ?_
      | refine wpG_val (by rfl) (fun w' hx => (by go_simp; first | (go_bits; first | exact rfl | exact ⟨by omega, rfl⟩) | exact rfl | exact (if_neg (by omega)).trans rfl | exact ⟨by omega, rfl⟩)) (by simp only [Act.put, List.setIfInBounds_toArray, List.set_cons_succ, List.set_cons_zero]; rfl) ?_
      | refine wpG_no (by rfl) (by simp only [Act.put, List.setIfInBounds_toArray, List.set_cons_succ, List.set_cons_zero]; rfl) ?_
    refine wpG_end (fun w16 hx16 => ?_)
    have HX16 := Lib.hid (HX15.out.trans hx16)
    clear hx16 hcv3
    go_wp2_with fail
    refine gQ_normal ?_
    go_wp2_with fail
    go_loopw [6, 7] (fun pv iv W => ∃ (i : Nat) (b : Bool), iv = .int .i64 (i : Nat) ∧ i ≤ s.size ∧ pv = .bool b ∧ Hid (b = true ↔ ∀ c ∈ s.data.toList.take i, c.toNat < 128) ∧ Hid (Ext w W)) (fun _ iv _ => s.size + 1 - (intOf iv).toNat)
    case atStart => exact ⟨0, true, rfl, by omega, rfl, Lib.hid ⟨fun _ c hc => (by cases hc), fun _ => rfl⟩, HX16⟩
    case round =>
      clear HX16 HX15 HX13 HX1 H1 H2 H3
      obtain ⟨i, b, rfl, hi, rfl, hb, HXR⟩ := hrel
      by_cases hlt : i < s.size
      · have hd : decide (i < s.size) = true := decide_eq_true hlt
        have hI : ((i : Nat) : Int) < (s.size : Nat) := by omega
        have hlt' : i < s.data.toList.length := by rw [len_eq]; exact hlt
        have e : s[i]'hlt = s.data.toList[i]'hlt' := rfl
        have hst : (∀ c ∈ s.data.toList.take (i + 1), c.toNat < 128) ↔ (∀ c ∈ s.data.toList.take i, c.toNat < 128) ∧ (s[i]'hlt).toNat < 128 := by
          rw [List.take_add_one, List.getElem?_eq_getElem hlt', e]
          simp only [List.mem_append, Option.toList_some, List.mem_singleton]
          constructor
          · exact fun h => ⟨fun c hc => h c (.inl hc), h _ (.inr rfl)⟩
          · rintro ⟨h1, h2⟩ c (hc | rfl)
            · exact h1 c hc
            · exact h2
        have HST := Lib.hid (And.intro hst hlt)
        clear hst e hlt'
        cases b with
        | true =>
          by_cases hc : (s[i]'hlt).toNat < 128
          · have hcI : (((s[i]'hlt).toNat : Nat) : Int) < 128 := by omega
            have HC := Lib.hid hc
            clear hc
            go_wp2_with fail
            exact ⟨⟨i + 1, true, by simp, by have := HST.out.2; omega, rfl, Lib.hid ⟨fun _ => HST.out.1.2 ⟨hb.out.1 rfl, HC.out⟩, fun _ => rfl⟩, HXR⟩, by have := HST.out.2; simp [intOf]; omega⟩
          · have hcI : ¬ (((s[i]'hlt).toNat : Nat) : Int) < 128 := by omega
            have HC := Lib.hid hc
            clear hc
            go_wp2_with fail
            exact ⟨⟨i + 1, false, by simp, by have := HST.out.2; omega, rfl, Lib.hid ⟨fun h => (by cases h), fun h => absurd (HST.out.1.1 h).2 HC.out⟩, HXR⟩, by have := HST.out.2; simp [intOf]; omega⟩
        | false =>
          go_wp2_with fail
          exact ⟨⟨i + 1, false, by simp, by have := HST.out.2; omega, rfl, Lib.hid ⟨fun h => (by cases h), fun h => hb.out.2 (HST.out.1.1 h).1⟩, HXR⟩, by have := HST.out.2; simp [intOf]; omega⟩
      · have hd : decide (i < s.size) = false := decide_eq_false hlt
        have hI : ¬ ((i : Nat) : Int) < (s.size : Nat) := by omega
        have hie : i = s.size := by omega
        have HIE := Lib.hid hie
        clear hie hlt hi
        cases b with
        | true =>
          have hzz : (z.toList == s.toList) = true := by
            have h := hb.out.1 rfl
            rw [HIE.out, take_all (by rw [len_eq]; exact Nat.le_refl _)] at h
            rw [HS.out.2 h]
            simp
          go_wp2_with fail
          refine (c_live wr (hT.ext HXR.out)).mono ?_
          rintro e w6 ⟨rfl, hx6⟩
          have HX6 := Lib.hid (HXR.out.trans hx6)
          clear hx6
          go_wp2_with fail
          go_ret
          exact ⟨rfl, HX6.out⟩
        | false =>
          go_wp2_with fail
          refine (c_live wr (hT.ext HXR.out)).mono ?_
          rintro e w6 ⟨rfl, hx6⟩
          have HX6 := Lib.hid (HXR.out.trans hx6)
          clear hx6
          go_wp2_with fail
          go_ret
          exact ⟨rfl, HX6.out⟩
  · have hsI : (90 : Int) < (s.size : Nat) := by omega
    go_enter Tryd.func4, Tryd.ntmps4
    go_wp2_with fail
    refine (c_live w hT).mono ?_
    rintro e w6 ⟨rfl, hx6⟩
    have HX6 := Lib.hid hx6
    clear hx6
    go_wp2_with fail
    go_ret
    exact ⟨rfl, HX6.out⟩
end Go.Proofs.YteokfknkcbmigaaDoor
