/-
 The runes of a text by the reference, with their places. The reference's elements in a slice.
-/
import Derived.Test.YtokeamebcdhnpaaGreatDoorWalkIJ
import Derived.WalkSmall
import Derived.Lib.OthersKept
import Derived.RangeFuncBox
import Derived.Laws.RangeAny
import Derived.Laws.BytesArg
import Derived.Test.YtokeamebcdhnpaaGreatDoorRefA
import Derived.Test.YtokeamebcdhnpaaGreatDoorWalkM
section
namespace Go.Proofs.YtokeamebcdhnpaaGreatDoor
open Go.RowKit Go.Rp Go.Shelf Go.Maps

theorem dec_wid (s : ByteArray) (i : Nat) : (Utf8.decode s i).2 = wid (s.data.toList.drop i) := by rw [dec_at]; rfl
theorem dec_run (s : ByteArray) (i : Nat) : (Utf8.decode s i).1 = run (s.data.toList.drop i) := by rw [dec_at]; rfl
theorem drop_ne (s : ByteArray) (i : Nat) (h : i < s.size) : s.data.toList.drop i ≠ [] := by
 intro e
 have := congrArg List.length e
 simp at this
 change s.size - i = 0 at this
 omega
def widAt (s : ByteArray) (k : Nat) : Nat := (Utf8.decode s k).2
theorem widAt_pos (s : ByteArray) (k : Nat) : 1 ≤ widAt s k := by unfold widAt; rw [dec_wid]; exact wid_pos _
theorem widAt_le (s : ByteArray) (k : Nat) (h : k < s.size) : k + widAt s k ≤ s.size := by
 unfold widAt; rw [dec_wid]
 have := wid_le _ (drop_ne s k h)
 simp only [List.length_drop, len_eq] at this
 omega
/-- The cells of a list of runes. -/
def runeCells : List (Nat × Nat × Nat) → List Value
 | [] => []
 | (r, p, q) :: l => .int .i32 (r : Nat) :: .int .i64 (p : Nat) :: .int .i64 (q : Nat) :: runeCells l
theorem runeCells_append (a b : List (Nat × Nat × Nat)) : runeCells (a ++ b) = runeCells a ++ runeCells b := by
 induction a with
 | nil => rfl
 | cons x r ih => obtain ⟨r', p, q⟩ := x; simp [runeCells, ih]
theorem runeCells_length (a : List (Nat × Nat × Nat)) : (runeCells a).length = a.length * 3 := by
 induction a with
 | nil => rfl
 | cons x r ih => obtain ⟨r', p, q⟩ := x; simp only [runeCells, List.length_cons, ih]; omega
theorem Tryz.infoR : (Tryz.prog.info? 134).map (fun i => (i.zero, i.size, i.bytes)) = some (some (.agg #[.int .i32 0, .int .i64 0, .int .i64 0]), 3, 24) := by kernel_rfl

theorem marks_step (n : Nat) (l : List UInt8) (p : Nat) (h : l ≠ []) : marks (n + 1) l p = (run l, p, p + wid l) :: marks n (l.drop (wid l)) (p + wid l) := by simp [marks, h]
theorem marks_nil (n p : Nat) : marks n [] p = [] := by cases n <;> simp [marks]

/-- How far the list has come. -/
def Come (s : ByteArray) (pos : Nat) (w w' : World) (v : Value) : Prop :=
 (pos = 0 ∧ v = .slice none 0 0 ∧ 0 < s.size) ∨ ∃ p0 r p f, marks s.size s.data.toList 0 = p0 ++ (r, p, pos) :: marks f (s.data.toList.drop pos) pos ∧ s.size ≤ f + pos ∧ p0.length + 1 ≤ pos ∧
  w'.ownsRow (w.heap.size + 1) 134 3 v (p0.length + 1) (runeCells (p0 ++ [(r, p, s.size)]))

theorem cell3_newR (w : World) (a b c : Value) (t : TypeId) : ∀ j u, [a, b, c][j]? = some u → (w.alloc (.cells #[a, b, c] t)).cell? ((⟨w.heap.size, 0, none⟩ : Addr).add j) = some u := by
 intro j u h
 have hj : j = 0 ∨ j = 1 ∨ j = 2 := by
  have := (List.getElem?_eq_some_iff.1 h).1
  simp at this
  omega
 rcases hj with rfl | rfl | rfl <;> (simp at h; subst h; simp [Addr.add])
theorem set_end (p0 : List (Nat × Nat × Nat)) (r p q n : Nat) : (runeCells (p0 ++ [(r, p, q)])).set (p0.length * 3 + 2) (.int .i64 (n : Nat)) = runeCells (p0 ++ [(r, p, n)]) := by
 rw [runeCells_append, runeCells_append, List.set_append_right _ _ (by rw [runeCells_length]; omega), runeCells_length, show p0.length * 3 + 2 - p0.length * 3 = 2 from by omega]
 rfl
theorem dec_fst (s : ByteArray) (pos : Nat) : (Utf8.decode s pos).1 = run (s.data.toList.drop pos) := dec_run s pos
/-- One rune more. -/
theorem come_next (s : ByteArray) (pos : Nat) (hlt : pos < s.size) (w w' : World) (v : Value) (p0 : List (Nat × Nat × Nat)) (r p f : Nat)
  (hM : marks s.size s.data.toList 0 = p0 ++ (r, p, pos) :: marks f (s.data.toList.drop pos) pos) (hf : s.size ≤ f + pos) (hl : p0.length + 1 ≤ pos)
  (ho : w'.ownsRow (w.heap.size + 1) 134 3 v (p0.length + 1 + 1) ((runeCells (p0 ++ [(r, p, s.size)])).set (p0.length * 3 + 2) (.int .i64 (pos : Nat)) ++ [.int .i32 ((Utf8.decode s pos).1 : Nat), .int .i64 (pos : Nat), .int .i64 (s.size : Nat)])) :
  Come s (pos + (Utf8.decode s pos).2) w w' v := by
 obtain ⟨f', rfl⟩ : ∃ f', f = f' + 1 := ⟨f - 1, by omega⟩
 rw [marks_step _ _ _ (drop_ne s pos hlt), List.drop_drop, ← dec_wid, ← dec_fst] at hM
 rw [set_end] at ho
 have h2 := widAt_pos s pos
 unfold widAt at h2
 refine .inr ⟨p0 ++ [(r, p, pos)], (Utf8.decode s pos).1, pos, f', by rw [hM]; simp, by omega, by simp; omega, ?_⟩
 rw [runeCells_append]
 simpa [runeCells] using ho
theorem come_first (s : ByteArray) (hlt : 0 < s.size) (w w' : World) (v : Value)
  (ho : w'.ownsRow (w.heap.size + 1) 134 3 v (0 + 1) ([] ++ [.int .i32 ((Utf8.decode s 0).1 : Nat), .int .i64 ((0 : Nat) : Int), .int .i64 (s.size : Nat)])) :
  Come s (0 + (Utf8.decode s 0).2) w w' v := by
 obtain ⟨f', hf'⟩ : ∃ f', s.size = f' + 1 := ⟨s.size - 1, by omega⟩
 have h2 := widAt_pos s 0
 unfold widAt at h2
 have hM := marks_step f' s.data.toList 0 (by have := drop_ne s 0 hlt; simpa using this)
 rw [← hf'] at hM
 have e1 := dec_wid s 0
 have e2 := dec_fst s 0
 simp only [List.drop_zero] at e1 e2
 refine .inr ⟨[], (Utf8.decode s 0).1, 0, f', by rw [hM, e1, e2]; simp, by omega, by simp; omega, ?_⟩
 simpa [runeCells] using ho

set_option maxRecDepth 100000 in
set_option maxHeartbeats 4000000 in
theorem c_SRunes (s : ByteArray) (w : World) (hs : s.size ≤ 1099511627776) :
  Calls Tryz.prog 79 #[.string s] w fun e w' => ∃ v, e = .returned v ∧ w'.ownsRow (w.heap.size + 1) 134 3 v (marks s.size s.data.toList 0).length (runeCells (marks s.size s.data.toList 0)) ∧ Ext w w' := by
 obtain ⟨i0, hi, hz0, hz1, hz2⟩ := info_parts Tryz.infoR
 go_enter Tryz.func79, Tryz.ntmps79
 go_wp2
 go_loopw [3, 4, 5] (fun v _ _ w' => ∃ pos : Nat, w'.heap[w.heap.size]? = some (.stringIter s pos) ∧ pos ≤ s.size ∧ Ext w w' ∧ (s.size = 0 ∧ v = .slice none 0 0 ∨ Come s pos w w' v)) (fun _ _ _ w' => s.size - w'.iterPos w.heap.size)
 case atStart =>
  refine ⟨0, World.iter_heap w s 0, by omega, (Ext.refl w).iter s 0, ?_⟩
  by_cases h : s.size = 0
  ·exact .inl ⟨h, rfl⟩
  ·exact .inr (.inl ⟨rfl, rfl, by omega⟩)
 case round =>
  obtain ⟨pos, hit, hp, hx, hcome⟩ := hrel
  have hpos := iterPos_of hit
  by_cases hlt : pos < s.size
  ·have hnx : ∀ ty, (Instr.next (.pointer (some ⟨w.heap.size, 0, none⟩)) true ty).run Tryz.prog wr = _ := fun ty => Lib.run_next_any_at wr w.heap.size s pos ty hit hlt
   rcases hcome with ⟨h0, _⟩ | ⟨rfl, rfl, h0⟩ | ⟨p0, r, p, f, hM, hf, hl, hown⟩
   ·omega
   ·have hdec := decode_le s 0
    go_wp2_with (at_builtin; refine wpList_append_own _ rfl (.tmp 22) (.tmp 28) 131 rfl (w.heap.size + 1) 134 i0 (.agg #[.int .i32 0, .int .i64 0, .int .i64 0]) 3 24 Tryz.underlying131 hi hz0 hz1 hz2 rfl (by decide) _ 0 [] rfl (World.ownsRow_nil _ _ _ _) ⟨_, 0, none⟩ 1 1 [.int .i32 ((Utf8.decode s 0).1 : Nat), .int .i64 ((0 : Nat) : Int), .int .i64 (s.size : Nat)] rfl rfl ?d1 ?d2 ?d3 ?d4 ?d5 ?_)
    case d1 => exact cell3_newR _ _ _ _ _
    case d2 => simp [Value.oneCell']
    case d3 => unfold maxLen; omega
    case d4 => omega
    case d5 => have := blk_lt hit; simp [Lib.iterAt_size]; omega
    intro v' w' hown' hgrow _
    have hcome := come_first s h0 w w' v' hown'
    rw [Nat.zero_add] at hcome
    have hE0 : Ext w (((wr.iterAt w.heap.size s (Utf8.decode s 0).2)).alloc (.cells #[.int .i32 ((Utf8.decode s 0).1 : Nat), .int .i64 0, .int .i64 (s.size : Nat)] 134)) :=
     Ext.alloc (Lib.below_iterAt hx (Nat.le_refl _) s _) _
    have hE : Ext w w' := Below.grown hE0 hgrow hE0.sz (fun k hk => by cases hk)
    have hI0 : (((wr.iterAt w.heap.size s (Utf8.decode s 0).2)).alloc (.cells #[.int .i32 ((Utf8.decode s 0).1 : Nat), .int .i64 0, .int .i64 (s.size : Nat)] 134)).heap[w.heap.size]? = some (.stringIter s (Utf8.decode s 0).2) := by
     have h1 := blk_lt hit
     rw [Below.heap_alloc _ _ _ (by simp [Lib.iterAt_size]; omega)]
     exact Lib.iterAt_heap wr _ s 0 _ hit
    have hI : w'.heap[w.heap.size]? = some (.stringIter s (Utf8.decode s 0).2) := by
     rw [hgrow.block _ (blk_lt hI0) (fun hk => by cases hk)]
     exact hI0
    have hw := widAt_le s 0 hlt
    have hw2 := widAt_pos s 0
    unfold widAt at hw hw2
    rw [Nat.zero_add] at hw
    have hp' := iterPos_of hI
    clear hown' hgrow hE0
    go_wp2_with fail
    go_roundw
    case rel => exact ⟨_, hI, hw, hE, .inr hcome⟩
    case measure => rw [hp', hpos]; omega
   ·obtain ⟨g, cap, rfl⟩ := ownsRow_succ hown
    have HM := Lib.hid hM
    clear hM
    have hown1 := ownsRow_iterAt hown (Nat.lt_succ_self w.heap.size) s (pos + (Utf8.decode s pos).2)
    have hcell := hown1.cellAt (p0.length * 3 + 2) (by omega)
    rw [runeCells_append] at hcell
    have hlen := runeCells_length p0
    rw [List.getElem?_append_right (by omega), hlen] at hcell
    have hcell' : (wr.iterAt w.heap.size s (pos + (Utf8.decode s pos).2)).cell? ⟨g, p0.length * 3 + 2, none⟩ = some (.int .i64 (s.size : Nat)) := by rw [hcell, show p0.length * 3 + 2 - p0.length * 3 = 2 from by omega]; rfl
    have hfro := hown1.frozenAt (p0.length * 3 + 2)
    clear hcell hlen
    have hst := (hown1.stored (p0.length * 3 + 2) (.int .i64 (pos : Nat))).1
    have hdec := decode_le s pos
    go_wp2_with (at_builtin; refine wpList_append_own _ rfl (.tmp 22) (.tmp 28) 131 rfl (w.heap.size + 1) 134 i0 (.agg #[.int .i32 0, .int .i64 0, .int .i64 0]) 3 24 Tryz.underlying131 hi hz0 hz1 hz2 rfl (by decide) _ _ _ rfl (hst.alloc _) ⟨_, 0, none⟩ 1 1 [.int .i32 ((Utf8.decode s pos).1 : Nat), .int .i64 (pos : Nat), .int .i64 (s.size : Nat)] rfl rfl ?c1 ?c2 ?c3 ?c4 ?c5 ?_)
    case c1 =>
     have h3 := cell3_newR ((wr.iterAt w.heap.size s (pos + (Utf8.decode s pos).2)).setCell ⟨g, p0.length * 3 + 2, none⟩ (.int .i64 (pos : Nat))) (.int .i32 ((Utf8.decode s pos).1 : Nat)) (.int .i64 (pos : Nat)) (.int .i64 (s.size : Nat)) 134
     rw [World.size_setCell] at h3
     exact h3
    case c2 => simp [Value.oneCell']
    case c3 => unfold maxLen; omega
    case c4 => omega
    case c5 => have := hx.sz; simp [Lib.iterAt_size]; omega
    intro v' w' hown' hgrow _
    have hcome := come_next s pos hlt w w' v' p0 r p f HM.out hf hl hown'
    have hgl := hown.lt g rfl
    have hE0 : Ext w ((((wr.iterAt w.heap.size s (pos + (Utf8.decode s pos).2)).setCell ⟨g, p0.length * 3 + 2, none⟩ (.int .i64 (pos : Nat))).alloc (.cells #[.int .i32 ((Utf8.decode s pos).1 : Nat), .int .i64 (pos : Nat), .int .i64 (s.size : Nat)] 134))) :=
     Ext.alloc (Ext.setCell (Lib.below_iterAt hx (Nat.le_refl _) s _) (by show w.heap.size ≤ g; omega) _) _
    have hrow : ∀ k, (Value.slice (some ⟨g, 0, none⟩) (p0.length + 1) cap).ownBlock = some k → w.heap.size ≤ k := by
     intro k hk
     have hgk : g = k := by simpa [Value.ownBlock] using hk
     omega
    have hrow2 : (Value.slice (some ⟨g, 0, none⟩) (p0.length + 1) cap).ownBlock ≠ some w.heap.size := by
     intro hk
     have hgk : g = w.heap.size := by simpa [Value.ownBlock] using hk
     omega
    have hE : Ext w w' := Below.grown hE0 hgrow hE0.sz hrow
    have hI0 : ((((wr.iterAt w.heap.size s (pos + (Utf8.decode s pos).2)).setCell ⟨g, p0.length * 3 + 2, none⟩ (.int .i64 (pos : Nat))).alloc (.cells #[.int .i32 ((Utf8.decode s pos).1 : Nat), .int .i64 (pos : Nat), .int .i64 (s.size : Nat)] 134))).heap[w.heap.size]? = some (.stringIter s (pos + (Utf8.decode s pos).2)) := by
     have h1 := blk_lt hit
     rw [Below.heap_alloc _ _ _ (by simp [Lib.iterAt_size]; omega), Below.heap_setCell _ _ _ _ (by show w.heap.size ≠ g; omega)]
     exact Lib.iterAt_heap wr _ s pos _ hit
    have hI : w'.heap[w.heap.size]? = some (.stringIter s (pos + (Utf8.decode s pos).2)) := by
     rw [hgrow.block _ (blk_lt hI0) (fun hk => hrow2 hk.symm)]
     exact hI0
    have hw := widAt_le s pos hlt
    have hw2 := widAt_pos s pos
    unfold widAt at hw hw2
    have hp' := iterPos_of hI
    clear hown' hgrow hE0
    go_wp2_with fail
    go_roundw
    case rel => exact ⟨_, hI, hw, hE, .inr hcome⟩
    case measure => rw [hp', hpos]; omega
  ·have hnx : ∀ ty, (Instr.next (.pointer (some ⟨w.heap.size, 0, none⟩)) true ty).run Tryz.prog wr = _ := fun ty => Lib.run_next_end_at wr w.heap.size s pos ty hit hlt
   rcases hcome with ⟨h0, rfl⟩ | ⟨rfl, rfl, h0⟩ | ⟨p0, r, p, f, hM, hf, hl, hown⟩
   ·go_wp2_with fail
    refine ret_one rfl rfl rfl ⟨_, rfl, ?_, hx⟩
    have e : s.data.toList = [] := by
     have := len_eq s
     rw [h0] at this
     exact List.length_eq_zero_iff.1 this
    rw [e, marks_nil]
    exact World.ownsRow_nil _ _ _ _
   ·omega
   ·have e : s.data.toList.drop pos = [] := List.drop_of_length_le (by rw [len_eq]; omega)
    rw [e, marks_nil] at hM
    have HM := Lib.hid hM
    have HP := Lib.hid (show pos = s.size by omega)
    clear hM e
    go_wp2_with fail
    refine ret_one rfl rfl rfl ⟨_, rfl, ?_, hx⟩
    rw [HM.out, HP.out]
    simpa using hown
theorem runeCells_get (l : List (Nat × Nat × Nat)) : ∀ (i : Nat) (h : i < l.length), (runeCells l)[i * 3]? = some (.int .i32 (l[i].1 : Nat)) ∧ (runeCells l)[i * 3 + 1]? = some (.int .i64 (l[i].2.1 : Nat)) ∧ (runeCells l)[i * 3 + 2]? = some (.int .i64 (l[i].2.2 : Nat)) := by
 induction l with
 | nil => intro i h; simp at h
 | cons x t ih =>
  intro i h
  obtain ⟨r, p, q⟩ := x
  cases i with
  | zero => simp [runeCells]
  | succ i =>
   obtain ⟨h1, h2, h3⟩ := ih i (by simpa using h)
   refine ⟨?_, ?_, ?_⟩
   ·rw [show (i + 1) * 3 = i * 3 + 1 + 1 + 1 by omega]; simpa [runeCells] using h1
   ·rw [show (i + 1) * 3 + 1 = (i * 3 + 1) + 1 + 1 + 1 by omega]; simpa [runeCells] using h2
   ·rw [show (i + 1) * 3 + 2 = (i * 3 + 2) + 1 + 1 + 1 by omega]; simpa [runeCells] using h3
theorem marks_mem (n : Nat) : ∀ (l : List UInt8) (p : Nat), ∀ m ∈ marks n l p, p ≤ m.2.1 ∧ m.2.1 < m.2.2 ∧ m.2.2 ≤ p + l.length := by
 induction n with
 | zero => intro l p m hm; cases hm
 | succ n ih =>
  intro l p m hm
  by_cases h : l = []
  ·subst h; cases hm
  ·rw [marks_step _ _ _ h] at hm
   have hp := wid_pos l
   have hw := wid_le l h
   rcases List.mem_cons.1 hm with rfl | hm
   ·exact ⟨Nat.le_refl _, by show p < p + wid l; omega, by show p + wid l ≤ _; omega⟩
   ·have := ih _ _ m hm
    rw [List.length_drop] at this
    omega
theorem marks_len (n : Nat) : ∀ (l : List UInt8) (p : Nat), (marks n l p).length ≤ l.length := by
 induction n with
 | zero => intro l p; exact Nat.zero_le _
 | succ n ih =>
  intro l p
  by_cases h : l = []
  ·subst h; exact Nat.le_refl _
  ·rw [marks_step _ _ _ h]
   have hp := wid_pos l
   have hw := wid_le l h
   have := ih (l.drop (wid l)) (p + wid l)
   rw [List.length_drop] at this
   rw [List.length_cons]; omega
end Go.Proofs.YtokeamebcdhnpaaGreatDoor
end

section
namespace Go.Proofs.YtokeamebcdhnpaaGreatDoor
open Go.RowKit Go.Rp Go.Shelf Go.Maps Go.Nm

def aR (x : El) : Int := if x.bad = true then 0 else x.r
def cR (x : El) : Int := if x.bad = true then x.r else 0
/-- An element's cells. -/
def elR (x : El) : List Value := [.int .i32 (aR x), .bool x.bad, .int .u8 (cR x), .int .i64 x.ord]
def elRs (L : List El) : List Value := L.flatMap elR
theorem elRs_length (L : List El) : (elRs L).length = L.length * 4 := by
 induction L with
 | nil => rfl
 | cons x t ih =>
  show (elR x ++ elRs t).length = _
  rw [List.length_append, ih]
  show 4 + _ = _
  simp only [List.length_cons]
  omega
theorem elRs_append (a b : List El) : elRs (a ++ b) = elRs a ++ elRs b := by simp [elRs]
theorem elRs_get : ∀ (R : List El) (i : Nat) (h : i < R.length), (elRs R)[i * 4]? = some (.int .i32 (aR R[i])) ∧ (elRs R)[i * 4 + 1]? = some (.bool R[i].bad) ∧ (elRs R)[i * 4 + 2]? = some (.int .u8 (cR R[i])) ∧ (elRs R)[i * 4 + 3]? = some (.int .i64 R[i].ord)
 | [], i, h => by simp at h
 | x :: t, 0, _ => by simp [elRs, elR]
 | x :: t, i + 1, h => by
  have e : elRs (x :: t) = elR x ++ elRs t := rfl
  have hl : (elR x).length = 4 := rfl
  obtain ⟨h1, h2, h3, h4⟩ := elRs_get t i (by simpa using h)
  rw [e]
  refine ⟨?_, ?_, ?_, ?_⟩
  ·rw [List.getElem?_append_right (by omega), hl, show (i + 1) * 4 - 4 = i * 4 by omega]; simpa using h1
  ·rw [List.getElem?_append_right (by omega), hl, show (i + 1) * 4 + 1 - 4 = i * 4 + 1 by omega]; simpa using h2
  ·rw [List.getElem?_append_right (by omega), hl, show (i + 1) * 4 + 2 - 4 = i * 4 + 2 by omega]; simpa using h3
  ·rw [List.getElem?_append_right (by omega), hl, show (i + 1) * 4 + 3 - 4 = i * 4 + 3 by omega]; simpa using h4
theorem infoER : (Tryz.prog.info? 96).map (fun i => (i.zero, i.size, i.bytes)) = some (some (.agg #[.int .i32 0, .bool false, .int .u8 0, .int .i64 0]), 4, 16) := by kernel_rfl
/-- Elements at the head of a block. -/
def ArrR (W : World) (g : Nat) (R : List El) (post : List Value) : Prop := W.heap[g]? = some (.cells (elRs R ++ post).toArray 96 (0, 0))
theorem ArrR.get {W : World} {g : Nat} {post : List Value} {R : List El} (h : ArrR W g R post) {i : Nat} (hi : i < R.length) :
  W.cell? ⟨g, i * 4, none⟩ = some (.int .i32 (aR R[i])) ∧ W.cell? ⟨g, i * 4 + 1, none⟩ = some (.bool R[i].bad) ∧ W.cell? ⟨g, i * 4 + 2, none⟩ = some (.int .u8 (cR R[i])) ∧ W.cell? ⟨g, i * 4 + 3, none⟩ = some (.int .i64 R[i].ord) := by
 obtain ⟨h1, h2, h3, h4⟩ := elRs_get R i hi
 have hl := elRs_length R
 have f : ∀ j, j < 4 → (elRs R ++ post)[i * 4 + j]? = (elRs R)[i * 4 + j]? := fun j hj => by
  rw [List.getElem?_append_left (by rw [hl]; omega)]
 refine ⟨?_, ?_, ?_, ?_⟩
 ·rw [cell_blk h]; simpa using (f 0 (by omega)).trans h1
 ·rw [cell_blk h]; simpa using (f 1 (by omega)).trans h2
 ·rw [cell_blk h]; simpa using (f 2 (by omega)).trans h3
 ·rw [cell_blk h]; simpa using (f 3 (by omega)).trans h4
theorem arrR_of {W : World} {n : Nat} {p : Option Addr} {cap : Nat} {R : List El} (h : W.ownsRow n 96 4 (.slice p R.length cap) R.length (elRs R)) (hR : R ≠ []) : ∃ g post, p = some ⟨g, 0, none⟩ ∧ n ≤ g ∧ ArrR W g R post ∧ R.length ≤ cap ∧ cap ≤ maxLen ∧ (elRs R ++ post).length = cap * 4 := by
 rcases h.2 with ⟨e, _⟩ | ⟨g, c, cur, e, hb, hgb, hc, hm, hsz, htk⟩
 ·simp only [Value.slice.injEq] at e
  exact absurd (List.length_eq_zero_iff.1 e.2.1) hR
 ·simp only [Value.slice.injEq] at e
  obtain ⟨rfl, -, rfl⟩ := e
  refine ⟨g, cur.toList.drop (R.length * 4), rfl, hb, ?_, hc, hm, ?_⟩
  ·unfold ArrR
   rw [hgb, ← htk, List.take_append_drop]
  ·rw [← htk, List.take_append_drop]
   simpa using hsz
theorem own_of_arr {W : World} {n g cap : Nat} {R : List El} {post : List Value} (h : ArrR W g R post) (hn : n ≤ g) (hc : R.length ≤ cap) (hm : cap ≤ maxLen) (hl : (elRs R ++ post).length = cap * 4) : W.ownsRow n 96 4 (.slice (some ⟨g, 0, none⟩) R.length cap) R.length (elRs R) := by
 refine ⟨elRs_length R, .inr ⟨g, cap, (elRs R ++ post).toArray, rfl, hn, h, hc, hm, by simpa using hl, ?_⟩⟩
 show (elRs R ++ post).take (R.length * 4) = elRs R
 rw [← elRs_length R, List.take_left]
/-- The world with one element laid anew. -/
def setR (W : World) (g p : Nat) (x : El) : World := (((W.setCell ⟨g, p, none⟩ (.int .i32 (aR x))).setCell ⟨g, p + 1, none⟩ (.bool x.bad)).setCell ⟨g, p + 2, none⟩ (.int .u8 (cR x))).setCell ⟨g, p + 3, none⟩ (.int .i64 x.ord)
theorem elRs_set (m : List El) (i : Nat) (x : El) (h : i < m.length) : ((((elRs m).set (i * 4) (.int .i32 (aR x))).set (i * 4 + 1) (.bool x.bad)).set (i * 4 + 2) (.int .u8 (cR x))).set (i * 4 + 3) (.int .i64 x.ord) = elRs (m.set i x) := by
 obtain ⟨pre, y, t, rfl, rfl⟩ : ∃ pre y t, m = pre ++ y :: t ∧ pre.length = i := ⟨m.take i, m[i], m.drop (i + 1), by rw [← List.drop_eq_getElem_cons h, List.take_append_drop], by rw [List.length_take]; omega⟩
 have e : elRs (pre ++ y :: t) = elRs pre ++ (elR y ++ elRs t) := by rw [elRs_append]; rfl
 have e2 : (pre ++ y :: t).set pre.length x = pre ++ x :: t := by simp
 have e3 : elRs (pre ++ x :: t) = elRs pre ++ (elR x ++ elRs t) := by rw [elRs_append]; rfl
 have hl := elRs_length pre
 rw [e2, e, e3]
 rw [List.set_append_right _ _ (by omega), List.set_append_right _ _ (by omega), List.set_append_right _ _ (by omega), List.set_append_right _ _ (by omega), hl]
 congr 1
 rw [show pre.length * 4 - pre.length * 4 = 0 from by omega, show pre.length * 4 + 1 - pre.length * 4 = 1 from by omega, show pre.length * 4 + 2 - pre.length * 4 = 2 from by omega, show pre.length * 4 + 3 - pre.length * 4 = 3 from by omega]
 rfl
theorem setR_grown (W : World) (g p : Nat) (x : El) : W.grownBy (setR W g p x) (some g) := by
 unfold setR
 exact (((grown_set _ _ _ _).trans (grown_set _ _ _ _)).trans (grown_set _ _ _ _)).trans (grown_set _ _ _ _)
theorem set4 (l post : List Value) (k : Nat) (a b c d : Value) (h : k + 3 < l.length) : ((((l ++ post).set k a).set (k + 1) b).set (k + 2) c).set (k + 3) d = (((l.set k a).set (k + 1) b).set (k + 2) c).set (k + 3) d ++ post := by
 rw [List.set_append_left _ _ (by omega), List.set_append_left _ _ (by simp; omega), List.set_append_left _ _ (by simp; omega), List.set_append_left _ _ (by simp; omega)]
theorem ArrR.setR {W : World} {g : Nat} {post : List Value} {R : List El} (h : ArrR W g R post) {i : Nat} (hi : i < R.length) (x : El) : ArrR (setR W g (i * 4) x) g (R.set i x) post := by
 have hl := elRs_length R
 have h1 := set_blk h (i * 4) (.int .i32 (aR x))
 have h2 := set_blk h1 (i * 4 + 1) (.bool x.bad)
 have h3 := set_blk h2 (i * 4 + 2) (.int .u8 (cR x))
 have h4 := set_blk h3 (i * 4 + 3) (.int .i64 x.ord)
 simp only [List.setIfInBounds_toArray] at h4
 rw [set4 _ _ _ _ _ _ _ (by omega), elRs_set R i x hi] at h4
 exact h4
theorem ArrR.frozen {W : World} {g : Nat} {post : List Value} {R : List El} (h : ArrR W g R post) (p : Nat) : W.frozen? ⟨g, p, none⟩ = false := frz_blk h p
/-- One element laid, at the operation. -/
theorem wpList_storeR {ops : Array Oper} {rest : List Oper} {o : Oper} {a : Act} {w : World} {Q : Exit → Act → World → Prop} (hg : o.guard = none) (x y : Operand) (ho : o.op = .store 96 x y)
  {g i off : Nat} {post : List Value} {R : List El} (r : El) (hx : a.eval x = .pointer (some ⟨g, off, none⟩)) (hy : a.eval y = .agg (elR r).toArray) (hoff : off = i * 4) (h : ArrR w g R post) (hn : i < R.length)
  (hK : wpList Tryz.prog ops Q rest (a.put o.dst undef) (setR w g (i * 4) r)) : wpList Tryz.prog ops Q (o :: rest) a w := by
 refine wpList_plain hg fun K' hK' => ?_
 subst hoff
 obtain ⟨g1, g2, g3, g4⟩ := h.get hn
 have hrun : (Instr.storeAt 96 (.pointer (some ⟨g, i * 4, none⟩)) (.agg (elR r).toArray)).run Tryz.prog w = .ok () (setR w g (i * 4) r) := by
  simp only [Instr.storeAt, Instr.sureAddr, Sem.run_bind, Sem.run_pure, Result.andThen]
  have hst := run_storeCells_cells (P := Tryz.prog) g (i * 4) (elR r) 0 w (fun j hj => by
   have hj3 : j < 4 := hj
   match j, hj3 with
   | 0, _ => exact congrArg Option.isSome g1
   | 1, _ => exact congrArg Option.isSome g2
   | 2, _ => exact congrArg Option.isSome g3
   | 3, _ => exact congrArg Option.isSome g4) (fun j _ => h.frozen _) (by intro v hv; simp [elR] at hv; rcases hv with rfl | rfl | rfl | rfl <;> rfl)
  have hv : (sizeOf 96).run Tryz.prog w = .ok 4 w := Tryz.sizeOf96 w
  unfold storeVar
  simp only [Sem.run_bind, hv, Result.andThen]
  have e : (Value.agg (elR r).toArray).cells.size = 4 := rfl
  simp only [e, ne_eq, not_true_eq_false, if_false]
  exact hst
 unfold Oper.wp
 simp [execOp, ho, hx, hy, hrun, Result.andThen]
 exact hK' _ _ hK
/-- The runes and faults of marks. -/
def rawM (l : List UInt8) (M : List (Nat × Nat × Nat)) : List (Int × Bool) := M.map fun m => if m.1 = 65533 ∧ m.2.2 - m.2.1 = 1 then (((l.getD m.2.1 0).toNat : Int), true) else ((m.1 : Int), false)
theorem rawM_marks : ∀ (n : Nat) (a b : List UInt8), b.length ≤ n → rawM (a ++ b) (marks n b a.length) = rawOf b := by
 intro n
 induction n with
 | zero =>
  intro a b h
  obtain rfl : b = [] := List.length_eq_zero_iff.1 (by omega)
  rfl
 | succ n ih =>
  intro a b h
  by_cases hb : b = []
  ·subst hb; rfl
  ·have hp := wid_pos b
   have hw := wid_le b hb
   have e : a ++ b = (a ++ b.take (wid b)) ++ b.drop (wid b) := by rw [List.append_assoc, List.take_append_drop]
   have hl : (a ++ b.take (wid b)).length = a.length + wid b := by rw [List.length_append, List.length_take]; omega
   have h1 := ih (a ++ b.take (wid b)) (b.drop (wid b)) (by rw [List.length_drop]; omega)
   rw [← e, hl] at h1
   rw [marks_step _ _ _ hb, rawOf_step b hb]
   unfold rawM at h1 ⊢
   rw [List.map_cons, h1]
   congr 1
   have e2 : (a ++ b).getD a.length 0 = b.getD 0 0 := by
    rw [List.getD_eq_getElem?_getD, List.getElem?_append_right (Nat.le_refl _), Nat.sub_self, List.getD_eq_getElem?_getD]
   by_cases hc : run b = 65533 ∧ wid b = 1
   ·rw [if_pos hc, if_pos ⟨hc.1, by show a.length + wid b - a.length = 1; omega⟩]
    show ((((a ++ b).getD a.length 0).toNat : Int), true) = _
    rw [e2]
   ·rw [if_neg hc, if_neg (fun h => hc ⟨h.1, by have := h.2; simp only at this; omega⟩)]
theorem rawM_of (l : List UInt8) : rawM l (marks l.length l 0) = rawOf l := by
 have := rawM_marks l.length [] l (Nat.le_refl _)
 simpa using this
end Go.Proofs.YtokeamebcdhnpaaGreatDoor
end
