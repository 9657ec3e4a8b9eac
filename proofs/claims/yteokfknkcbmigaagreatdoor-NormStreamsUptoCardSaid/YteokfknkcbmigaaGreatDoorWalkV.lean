/-
 How many bytes at a text's end are no whole rune.
-/
import Derived.Test.YteokfknkcbmigaaGreatDoorWalkTU
namespace Go.Proofs.YteokfknkcbmigaaGreatDoor
open Go.RowKit Go.Rp Go.Shelf Go.Maps Go.Nm

/-- Does a text begin with a whole rune, or with a fault? -/
def fullN (n x0 x1 x2 : Nat) : Bool :=
 decide (Lib.firstT x0 % 8 ≤ n) || (decide (1 < n) && (decide (x1 < Lib.accLo (Lib.firstT x0 / 16)) || decide (Lib.accHi (Lib.firstT x0 / 16) < x1))) || (decide (2 < n) && (decide (x2 < 128) || decide (191 < x2)))
def fullB (l : List UInt8) : Bool := fullN l.length (l.getD 0 0).toNat (l.getD 1 0).toNat (l.getD 2 0).toNat
set_option maxRecDepth 100000 in
set_option maxHeartbeats 8000000 in
theorem c_FullRune (n b off cap x0 x1 x2 : Nat) (w : World) (hT : Tabs w) (h0 : 0 < n) (hn9 : n ≤ 1000000000) (l0 : x0 < 256) (l1 : x1 < 256) (l2 : x2 < 256)
  (hs0 : w.cell? ⟨b, off, none⟩ = some (.int .u8 x0)) (hs1 : 1 < n → w.cell? ⟨b, off + 1, none⟩ = some (.int .u8 x1)) (hs2 : 2 < n → w.cell? ⟨b, off + 2, none⟩ = some (.int .u8 x2)) :
  Calls Tryz.prog 98 #[.slice (some ⟨b, off, none⟩) n cap] w fun e w' => e = .returned (.bool (fullN n x0 x1 x2)) ∧ Ext w w' := by
 have t138 := Tryz.underlying164
 have a138 := Tryz.isAgg164
 have z138 := Tryz.sizeOf164
 have v138 := Tryz.zeroValue164
 have u138 := run_underlying t138
 obtain ⟨full, hfull⟩ : ∃ full, fullN n x0 x1 x2 = full := ⟨_, rfl⟩
 have hf2 := hfull
 unfold fullN at hf2
 have hu8 := hT.u8
 have hc0 := hu8.1 x0 (by omega)
 have hb : b < w.heap.size := World.block_lt_of_cell? _ _ hs0
 have hnz : (0 : Int) < (n : Int) := by omega
 have hn0 : ((n : Int) == 0) = false := by simp; omega
 have hn9I : ((n : Nat) : Int) ≤ 1000000000 := by omega
 rw [hfull]
 rcases Lib.firstT_cases x0 with hX | hX | hX | hX | hX | hX | hX | hX | hX
 ·rw [hX] at hc0 hf2
  simp only [Nat.reduceMod] at hf2
  have HF := Lib.hid hf2
  clear hf2 hfull hu8 hX hs1 hs2
  try (exfalso; omega)
  all_goals go_enter Tryz.func98, Tryz.ntmps98
  all_goals go_wp2_with fail
  all_goals (go_ret; refine ⟨congrArg (fun z => Ending.returned (Value.bool z)) ?_, (by first | exact Ext.refl _ | exact (Ext.refl w).alloc _)⟩)
  all_goals (rw [← HF.out]; first | (symm; simp only [Bool.or_eq_true, Bool.and_eq_true, decide_eq_true_eq]; omega) | (symm; rw [Bool.eq_false_iff]; simp only [ne_eq, Bool.or_eq_true, Bool.and_eq_true, decide_eq_true_eq]; omega))
 ·rw [hX] at hc0 hf2
  simp only [Nat.reduceMod] at hf2
  have HF := Lib.hid hf2
  clear hf2 hfull hu8 hX hs1 hs2
  try (exfalso; omega)
  all_goals go_enter Tryz.func98, Tryz.ntmps98
  all_goals go_wp2_with fail
  all_goals (go_ret; refine ⟨congrArg (fun z => Ending.returned (Value.bool z)) ?_, (by first | exact Ext.refl _ | exact (Ext.refl w).alloc _)⟩)
  all_goals (rw [← HF.out]; first | (symm; simp only [Bool.or_eq_true, Bool.and_eq_true, decide_eq_true_eq]; omega) | (symm; rw [Bool.eq_false_iff]; simp only [ne_eq, Bool.or_eq_true, Bool.and_eq_true, decide_eq_true_eq]; omega))
 ·rw [hX] at hc0 hf2
  have ha0 := (hu8.2 0 (by omega)).1
  have ha1 := (hu8.2 0 (by omega)).2
  simp only [Lib.accLo, Lib.accHi, Nat.reduceMul, Nat.reduceAdd, Nat.reduceEqDiff, if_true, if_false, Nat.reduceMod, Nat.reduceDiv] at ha0 ha1 hf2
  have HF := Lib.hid hf2
  clear hf2 hfull hu8 hX
  by_cases hn : 2 ≤ n
  ·have hnI : (2 : Int) ≤ (n : Nat) := by omega
   clear hs1 hs2
   try (exfalso; omega)
   all_goals go_enter Tryz.func98, Tryz.ntmps98
   all_goals go_wp2_with fail
   all_goals (go_ret; refine ⟨congrArg (fun z => Ending.returned (Value.bool z)) ?_, (by first | exact Ext.refl _ | exact (Ext.refl w).alloc _)⟩)
   all_goals (rw [← HF.out]; first | (symm; simp only [Bool.or_eq_true, Bool.and_eq_true, decide_eq_true_eq]; omega) | (symm; rw [Bool.eq_false_iff]; simp only [ne_eq, Bool.or_eq_true, Bool.and_eq_true, decide_eq_true_eq]; omega))
  ·have hnI : ¬ (2 : Int) ≤ (n : Nat) := by omega
   have h1I : ¬ (1 : Int) < (n : Nat) := by omega
   have dh1I := decide_eq_false h1I
   have h2I : ¬ (2 : Int) < (n : Nat) := by omega
   have dh2I := decide_eq_false h2I
   clear hs1 hs2
   go_enter Tryz.func98, Tryz.ntmps98
   go_wp2_with fail
   have hx1 := (Ext.refl w).alloc (.cells #[.int .u8 128, .int .u8 191] 164)
   have hbk := World.alloc_heap_new w (.cells #[.int .u8 128, .int .u8 191] 164)
   have HW := Lib.hid (show w.heap.size ≤ (w.alloc (.cells #[.int .u8 128, .int .u8 191] 164)).heap.size by rw [World.size_alloc]; omega)
   generalize w.alloc (.cells #[.int .u8 128, .int .u8 191] 164) = w1 at hx1 hbk ⊢
   generalize w.heap.size = ab at hbk ⊢
   have y0 : ∀ w', EOn (fun _ => True) w1 w' → w'.cell? ⟨ab, 0, none⟩ = some (.int .u8 128) := fun w' h => h.cell trivial ((cell_blk hbk 0).trans rfl)
   have y1 : ∀ w', EOn (fun _ => True) w1 w' → w'.cell? ⟨ab, 1, none⟩ = some (.int .u8 191) := fun w' h => h.cell trivial ((cell_blk hbk 1).trans rfl)
   try have y2 : ∀ w', EOn (fun _ => True) w1 w' → w'.cell? ⟨b, off + 1, none⟩ = some (.int .u8 x1) := fun w' h => h.cell trivial (hx1.cell hs1)
   try have HS2 := Lib.hid (hx1.cell hs2)
   have HX1 := Lib.hid hx1
   clear hbk hc0 ha0 ha1 hs0 hb HW hx1
   try clear hs1
   try clear hs2
   refine wp_lex (fun _ => True) [true, true, true, true, true, true, true, true, true, true, true, true, true, true, true, true, true, true] (by kernel_rfl) (by kernel_rfl) ?_
   repeat first
    | refine wpG_move' ?_
    | refine wpG_assign' ?_
    | refine wpG_val' ?_
    | refine wpG_no' ?_
   refine wpG_end (fun w5 hx5 => ?_)
   try have c2 := hx5.cell HS2.out
   have HX5 := Lib.hid (HX1.out.trans hx5)
   clear y0 y1 hx5 HX1
   try clear y2
   try clear HS2
   go_wp2_with fail
   refine gQ_normal ?_
   go_wp2_with fail
   all_goals (go_ret; refine ⟨congrArg (fun z => Ending.returned (Value.bool z)) ?_, HX5.out⟩)
   all_goals (rw [← HF.out]; first | (symm; simp only [Bool.or_eq_true, Bool.and_eq_true, decide_eq_true_eq]; omega) | (symm; rw [Bool.eq_false_iff]; simp only [ne_eq, Bool.or_eq_true, Bool.and_eq_true, decide_eq_true_eq]; omega))
 ·rw [hX] at hc0 hf2
  have ha0 := (hu8.2 1 (by omega)).1
  have ha1 := (hu8.2 1 (by omega)).2
  simp only [Lib.accLo, Lib.accHi, Nat.reduceMul, Nat.reduceAdd, Nat.reduceEqDiff, if_true, if_false, Nat.reduceMod, Nat.reduceDiv] at ha0 ha1 hf2
  have HF := Lib.hid hf2
  clear hf2 hfull hu8 hX
  by_cases hn : 3 ≤ n
  ·have hnI : (3 : Int) ≤ (n : Nat) := by omega
   clear hs1 hs2
   try (exfalso; omega)
   all_goals go_enter Tryz.func98, Tryz.ntmps98
   all_goals go_wp2_with fail
   all_goals (go_ret; refine ⟨congrArg (fun z => Ending.returned (Value.bool z)) ?_, (by first | exact Ext.refl _ | exact (Ext.refl w).alloc _)⟩)
   all_goals (rw [← HF.out]; first | (symm; simp only [Bool.or_eq_true, Bool.and_eq_true, decide_eq_true_eq]; omega) | (symm; rw [Bool.eq_false_iff]; simp only [ne_eq, Bool.or_eq_true, Bool.and_eq_true, decide_eq_true_eq]; omega))
  ·have hnI : ¬ (3 : Int) ≤ (n : Nat) := by omega
   rcases Nat.lt_or_ge 1 n with h1 | h1
   ·have h1I : (1 : Int) < (n : Nat) := by omega
    have dh1I := decide_eq_true h1I
    replace hs1 := hs1 h1
    by_cases hb1 : x1 < 160
    ·have hb1I : ((x1 : Nat) : Int) < 160 := by omega
     have dhb1I := decide_eq_true hb1I
     clear hs2
     go_enter Tryz.func98, Tryz.ntmps98
     go_wp2_with fail
     have hx1 := (Ext.refl w).alloc (.cells #[.int .u8 160, .int .u8 191] 164)
     have hbk := World.alloc_heap_new w (.cells #[.int .u8 160, .int .u8 191] 164)
     have HW := Lib.hid (show w.heap.size ≤ (w.alloc (.cells #[.int .u8 160, .int .u8 191] 164)).heap.size by rw [World.size_alloc]; omega)
     generalize w.alloc (.cells #[.int .u8 160, .int .u8 191] 164) = w1 at hx1 hbk ⊢
     generalize w.heap.size = ab at hbk ⊢
     have y0 : ∀ w', EOn (fun _ => True) w1 w' → w'.cell? ⟨ab, 0, none⟩ = some (.int .u8 160) := fun w' h => h.cell trivial ((cell_blk hbk 0).trans rfl)
     have y1 : ∀ w', EOn (fun _ => True) w1 w' → w'.cell? ⟨ab, 1, none⟩ = some (.int .u8 191) := fun w' h => h.cell trivial ((cell_blk hbk 1).trans rfl)
     try have y2 : ∀ w', EOn (fun _ => True) w1 w' → w'.cell? ⟨b, off + 1, none⟩ = some (.int .u8 x1) := fun w' h => h.cell trivial (hx1.cell hs1)
     try have HS2 := Lib.hid (hx1.cell hs2)
     have HX1 := Lib.hid hx1
     clear hbk hc0 ha0 ha1 hs0 hb HW hx1
     try clear hs1
     try clear hs2
     refine wp_lex (fun _ => True) [true, true, true, true, true, true, true, true, true, true, true, true, true, true, true, true, true, true] (by kernel_rfl) (by kernel_rfl) ?_
     repeat first
      | refine wpG_move' ?_
      | refine wpG_assign' ?_
      | refine wpG_val' ?_
      | refine wpG_no' ?_
     refine wpG_end (fun w5 hx5 => ?_)
     try have c2 := hx5.cell HS2.out
     have HX5 := Lib.hid (HX1.out.trans hx5)
     clear y0 y1 hx5 HX1
     try clear y2
     try clear HS2
     go_wp2_with fail
     refine gQ_normal ?_
     go_wp2_with fail
     all_goals (go_ret; refine ⟨congrArg (fun z => Ending.returned (Value.bool z)) ?_, HX5.out⟩)
     all_goals (rw [← HF.out]; first | (symm; simp only [Bool.or_eq_true, Bool.and_eq_true, decide_eq_true_eq]; omega) | (symm; rw [Bool.eq_false_iff]; simp only [ne_eq, Bool.or_eq_true, Bool.and_eq_true, decide_eq_true_eq]; omega))
    ·have hb1I : ¬ ((x1 : Nat) : Int) < 160 := by omega
     have dhb1I := decide_eq_false hb1I
     by_cases hb2 : 191 < x1
     ·have hb2I : 191 < ((x1 : Nat) : Int) := by omega
      have dhb2I := decide_eq_true hb2I
      clear hs2
      go_enter Tryz.func98, Tryz.ntmps98
      go_wp2_with fail
      have hx1 := (Ext.refl w).alloc (.cells #[.int .u8 160, .int .u8 191] 164)
      have hbk := World.alloc_heap_new w (.cells #[.int .u8 160, .int .u8 191] 164)
      have HW := Lib.hid (show w.heap.size ≤ (w.alloc (.cells #[.int .u8 160, .int .u8 191] 164)).heap.size by rw [World.size_alloc]; omega)
      generalize w.alloc (.cells #[.int .u8 160, .int .u8 191] 164) = w1 at hx1 hbk ⊢
      generalize w.heap.size = ab at hbk ⊢
      have y0 : ∀ w', EOn (fun _ => True) w1 w' → w'.cell? ⟨ab, 0, none⟩ = some (.int .u8 160) := fun w' h => h.cell trivial ((cell_blk hbk 0).trans rfl)
      have y1 : ∀ w', EOn (fun _ => True) w1 w' → w'.cell? ⟨ab, 1, none⟩ = some (.int .u8 191) := fun w' h => h.cell trivial ((cell_blk hbk 1).trans rfl)
      try have y2 : ∀ w', EOn (fun _ => True) w1 w' → w'.cell? ⟨b, off + 1, none⟩ = some (.int .u8 x1) := fun w' h => h.cell trivial (hx1.cell hs1)
      try have HS2 := Lib.hid (hx1.cell hs2)
      have HX1 := Lib.hid hx1
      clear hbk hc0 ha0 ha1 hs0 hb HW hx1
      try clear hs1
      try clear hs2
      refine wp_lex (fun _ => True) [true, true, true, true, true, true, true, true, true, true, true, true, true, true, true, true, true, true] (by kernel_rfl) (by kernel_rfl) ?_
      repeat first
       | refine wpG_move' ?_
       | refine wpG_assign' ?_
       | refine wpG_val' ?_
       | refine wpG_no' ?_
      refine wpG_end (fun w5 hx5 => ?_)
      try have c2 := hx5.cell HS2.out
      have HX5 := Lib.hid (HX1.out.trans hx5)
      clear y0 y1 hx5 HX1
      try clear y2
      try clear HS2
      go_wp2_with fail
      refine gQ_normal ?_
      go_wp2_with fail
      all_goals (go_ret; refine ⟨congrArg (fun z => Ending.returned (Value.bool z)) ?_, HX5.out⟩)
      all_goals (rw [← HF.out]; first | (symm; simp only [Bool.or_eq_true, Bool.and_eq_true, decide_eq_true_eq]; omega) | (symm; rw [Bool.eq_false_iff]; simp only [ne_eq, Bool.or_eq_true, Bool.and_eq_true, decide_eq_true_eq]; omega))
     ·have hb2I : ¬ 191 < ((x1 : Nat) : Int) := by omega
      have dhb2I := decide_eq_false hb2I
      have h2I : ¬ (2 : Int) < (n : Nat) := by omega
      have dh2I := decide_eq_false h2I
      clear hs2
      go_enter Tryz.func98, Tryz.ntmps98
      go_wp2_with fail
      have hx1 := (Ext.refl w).alloc (.cells #[.int .u8 160, .int .u8 191] 164)
      have hbk := World.alloc_heap_new w (.cells #[.int .u8 160, .int .u8 191] 164)
      have HW := Lib.hid (show w.heap.size ≤ (w.alloc (.cells #[.int .u8 160, .int .u8 191] 164)).heap.size by rw [World.size_alloc]; omega)
      generalize w.alloc (.cells #[.int .u8 160, .int .u8 191] 164) = w1 at hx1 hbk ⊢
      generalize w.heap.size = ab at hbk ⊢
      have y0 : ∀ w', EOn (fun _ => True) w1 w' → w'.cell? ⟨ab, 0, none⟩ = some (.int .u8 160) := fun w' h => h.cell trivial ((cell_blk hbk 0).trans rfl)
      have y1 : ∀ w', EOn (fun _ => True) w1 w' → w'.cell? ⟨ab, 1, none⟩ = some (.int .u8 191) := fun w' h => h.cell trivial ((cell_blk hbk 1).trans rfl)
      try have y2 : ∀ w', EOn (fun _ => True) w1 w' → w'.cell? ⟨b, off + 1, none⟩ = some (.int .u8 x1) := fun w' h => h.cell trivial (hx1.cell hs1)
      try have HS2 := Lib.hid (hx1.cell hs2)
      have HX1 := Lib.hid hx1
      clear hbk hc0 ha0 ha1 hs0 hb HW hx1
      try clear hs1
      try clear hs2
      refine wp_lex (fun _ => True) [true, true, true, true, true, true, true, true, true, true, true, true, true, true, true, true, true, true] (by kernel_rfl) (by kernel_rfl) ?_
      repeat first
       | refine wpG_move' ?_
       | refine wpG_assign' ?_
       | refine wpG_val' ?_
       | refine wpG_no' ?_
      refine wpG_end (fun w5 hx5 => ?_)
      try have c2 := hx5.cell HS2.out
      have HX5 := Lib.hid (HX1.out.trans hx5)
      clear y0 y1 hx5 HX1
      try clear y2
      try clear HS2
      go_wp2_with fail
      refine gQ_normal ?_
      go_wp2_with fail
      all_goals (go_ret; refine ⟨congrArg (fun z => Ending.returned (Value.bool z)) ?_, HX5.out⟩)
      all_goals (rw [← HF.out]; first | (symm; simp only [Bool.or_eq_true, Bool.and_eq_true, decide_eq_true_eq]; omega) | (symm; rw [Bool.eq_false_iff]; simp only [ne_eq, Bool.or_eq_true, Bool.and_eq_true, decide_eq_true_eq]; omega))
   ·have h1I : ¬ (1 : Int) < (n : Nat) := by omega
    have dh1I := decide_eq_false h1I
    have h2I : ¬ (2 : Int) < (n : Nat) := by omega
    have dh2I := decide_eq_false h2I
    clear hs1 hs2
    go_enter Tryz.func98, Tryz.ntmps98
    go_wp2_with fail
    have hx1 := (Ext.refl w).alloc (.cells #[.int .u8 160, .int .u8 191] 164)
    have hbk := World.alloc_heap_new w (.cells #[.int .u8 160, .int .u8 191] 164)
    have HW := Lib.hid (show w.heap.size ≤ (w.alloc (.cells #[.int .u8 160, .int .u8 191] 164)).heap.size by rw [World.size_alloc]; omega)
    generalize w.alloc (.cells #[.int .u8 160, .int .u8 191] 164) = w1 at hx1 hbk ⊢
    generalize w.heap.size = ab at hbk ⊢
    have y0 : ∀ w', EOn (fun _ => True) w1 w' → w'.cell? ⟨ab, 0, none⟩ = some (.int .u8 160) := fun w' h => h.cell trivial ((cell_blk hbk 0).trans rfl)
    have y1 : ∀ w', EOn (fun _ => True) w1 w' → w'.cell? ⟨ab, 1, none⟩ = some (.int .u8 191) := fun w' h => h.cell trivial ((cell_blk hbk 1).trans rfl)
    try have y2 : ∀ w', EOn (fun _ => True) w1 w' → w'.cell? ⟨b, off + 1, none⟩ = some (.int .u8 x1) := fun w' h => h.cell trivial (hx1.cell hs1)
    try have HS2 := Lib.hid (hx1.cell hs2)
    have HX1 := Lib.hid hx1
    clear hbk hc0 ha0 ha1 hs0 hb HW hx1
    try clear hs1
    try clear hs2
    refine wp_lex (fun _ => True) [true, true, true, true, true, true, true, true, true, true, true, true, true, true, true, true, true, true] (by kernel_rfl) (by kernel_rfl) ?_
    repeat first
     | refine wpG_move' ?_
     | refine wpG_assign' ?_
     | refine wpG_val' ?_
     | refine wpG_no' ?_
    refine wpG_end (fun w5 hx5 => ?_)
    try have c2 := hx5.cell HS2.out
    have HX5 := Lib.hid (HX1.out.trans hx5)
    clear y0 y1 hx5 HX1
    try clear y2
    try clear HS2
    go_wp2_with fail
    refine gQ_normal ?_
    go_wp2_with fail
    all_goals (go_ret; refine ⟨congrArg (fun z => Ending.returned (Value.bool z)) ?_, HX5.out⟩)
    all_goals (rw [← HF.out]; first | (symm; simp only [Bool.or_eq_true, Bool.and_eq_true, decide_eq_true_eq]; omega) | (symm; rw [Bool.eq_false_iff]; simp only [ne_eq, Bool.or_eq_true, Bool.and_eq_true, decide_eq_true_eq]; omega))
 ·rw [hX] at hc0 hf2
  have ha0 := (hu8.2 0 (by omega)).1
  have ha1 := (hu8.2 0 (by omega)).2
  simp only [Lib.accLo, Lib.accHi, Nat.reduceMul, Nat.reduceAdd, Nat.reduceEqDiff, if_true, if_false, Nat.reduceMod, Nat.reduceDiv] at ha0 ha1 hf2
  have HF := Lib.hid hf2
  clear hf2 hfull hu8 hX
  by_cases hn : 3 ≤ n
  ·have hnI : (3 : Int) ≤ (n : Nat) := by omega
   clear hs1 hs2
   try (exfalso; omega)
   all_goals go_enter Tryz.func98, Tryz.ntmps98
   all_goals go_wp2_with fail
   all_goals (go_ret; refine ⟨congrArg (fun z => Ending.returned (Value.bool z)) ?_, (by first | exact Ext.refl _ | exact (Ext.refl w).alloc _)⟩)
   all_goals (rw [← HF.out]; first | (symm; simp only [Bool.or_eq_true, Bool.and_eq_true, decide_eq_true_eq]; omega) | (symm; rw [Bool.eq_false_iff]; simp only [ne_eq, Bool.or_eq_true, Bool.and_eq_true, decide_eq_true_eq]; omega))
  ·have hnI : ¬ (3 : Int) ≤ (n : Nat) := by omega
   rcases Nat.lt_or_ge 1 n with h1 | h1
   ·have h1I : (1 : Int) < (n : Nat) := by omega
    have dh1I := decide_eq_true h1I
    replace hs1 := hs1 h1
    by_cases hb1 : x1 < 128
    ·have hb1I : ((x1 : Nat) : Int) < 128 := by omega
     have dhb1I := decide_eq_true hb1I
     clear hs2
     go_enter Tryz.func98, Tryz.ntmps98
     go_wp2_with fail
     have hx1 := (Ext.refl w).alloc (.cells #[.int .u8 128, .int .u8 191] 164)
     have hbk := World.alloc_heap_new w (.cells #[.int .u8 128, .int .u8 191] 164)
     have HW := Lib.hid (show w.heap.size ≤ (w.alloc (.cells #[.int .u8 128, .int .u8 191] 164)).heap.size by rw [World.size_alloc]; omega)
     generalize w.alloc (.cells #[.int .u8 128, .int .u8 191] 164) = w1 at hx1 hbk ⊢
     generalize w.heap.size = ab at hbk ⊢
     have y0 : ∀ w', EOn (fun _ => True) w1 w' → w'.cell? ⟨ab, 0, none⟩ = some (.int .u8 128) := fun w' h => h.cell trivial ((cell_blk hbk 0).trans rfl)
     have y1 : ∀ w', EOn (fun _ => True) w1 w' → w'.cell? ⟨ab, 1, none⟩ = some (.int .u8 191) := fun w' h => h.cell trivial ((cell_blk hbk 1).trans rfl)
     try have y2 : ∀ w', EOn (fun _ => True) w1 w' → w'.cell? ⟨b, off + 1, none⟩ = some (.int .u8 x1) := fun w' h => h.cell trivial (hx1.cell hs1)
     try have HS2 := Lib.hid (hx1.cell hs2)
     have HX1 := Lib.hid hx1
     clear hbk hc0 ha0 ha1 hs0 hb HW hx1
     try clear hs1
     try clear hs2
     refine wp_lex (fun _ => True) [true, true, true, true, true, true, true, true, true, true, true, true, true, true, true, true, true, true] (by kernel_rfl) (by kernel_rfl) ?_
     repeat first
      | refine wpG_move' ?_
      | refine wpG_assign' ?_
      | refine wpG_val' ?_
      | refine wpG_no' ?_
     refine wpG_end (fun w5 hx5 => ?_)
     try have c2 := hx5.cell HS2.out
     have HX5 := Lib.hid (HX1.out.trans hx5)
     clear y0 y1 hx5 HX1
     try clear y2
     try clear HS2
     go_wp2_with fail
     refine gQ_normal ?_
     go_wp2_with fail
     all_goals (go_ret; refine ⟨congrArg (fun z => Ending.returned (Value.bool z)) ?_, HX5.out⟩)
     all_goals (rw [← HF.out]; first | (symm; simp only [Bool.or_eq_true, Bool.and_eq_true, decide_eq_true_eq]; omega) | (symm; rw [Bool.eq_false_iff]; simp only [ne_eq, Bool.or_eq_true, Bool.and_eq_true, decide_eq_true_eq]; omega))
    ·have hb1I : ¬ ((x1 : Nat) : Int) < 128 := by omega
     have dhb1I := decide_eq_false hb1I
     by_cases hb2 : 191 < x1
     ·have hb2I : 191 < ((x1 : Nat) : Int) := by omega
      have dhb2I := decide_eq_true hb2I
      clear hs2
      go_enter Tryz.func98, Tryz.ntmps98
      go_wp2_with fail
      have hx1 := (Ext.refl w).alloc (.cells #[.int .u8 128, .int .u8 191] 164)
      have hbk := World.alloc_heap_new w (.cells #[.int .u8 128, .int .u8 191] 164)
      have HW := Lib.hid (show w.heap.size ≤ (w.alloc (.cells #[.int .u8 128, .int .u8 191] 164)).heap.size by rw [World.size_alloc]; omega)
      generalize w.alloc (.cells #[.int .u8 128, .int .u8 191] 164) = w1 at hx1 hbk ⊢
      generalize w.heap.size = ab at hbk ⊢
      have y0 : ∀ w', EOn (fun _ => True) w1 w' → w'.cell? ⟨ab, 0, none⟩ = some (.int .u8 128) := fun w' h => h.cell trivial ((cell_blk hbk 0).trans rfl)
      have y1 : ∀ w', EOn (fun _ => True) w1 w' → w'.cell? ⟨ab, 1, none⟩ = some (.int .u8 191) := fun w' h => h.cell trivial ((cell_blk hbk 1).trans rfl)
      try have y2 : ∀ w', EOn (fun _ => True) w1 w' → w'.cell? ⟨b, off + 1, none⟩ = some (.int .u8 x1) := fun w' h => h.cell trivial (hx1.cell hs1)
      try have HS2 := Lib.hid (hx1.cell hs2)
      have HX1 := Lib.hid hx1
      clear hbk hc0 ha0 ha1 hs0 hb HW hx1
      try clear hs1
      try clear hs2
      refine wp_lex (fun _ => True) [true, true, true, true, true, true, true, true, true, true, true, true, true, true, true, true, true, true] (by kernel_rfl) (by kernel_rfl) ?_
      repeat first
       | refine wpG_move' ?_
       | refine wpG_assign' ?_
       | refine wpG_val' ?_
       | refine wpG_no' ?_
      refine wpG_end (fun w5 hx5 => ?_)
      try have c2 := hx5.cell HS2.out
      have HX5 := Lib.hid (HX1.out.trans hx5)
      clear y0 y1 hx5 HX1
      try clear y2
      try clear HS2
      go_wp2_with fail
      refine gQ_normal ?_
      go_wp2_with fail
      all_goals (go_ret; refine ⟨congrArg (fun z => Ending.returned (Value.bool z)) ?_, HX5.out⟩)
      all_goals (rw [← HF.out]; first | (symm; simp only [Bool.or_eq_true, Bool.and_eq_true, decide_eq_true_eq]; omega) | (symm; rw [Bool.eq_false_iff]; simp only [ne_eq, Bool.or_eq_true, Bool.and_eq_true, decide_eq_true_eq]; omega))
     ·have hb2I : ¬ 191 < ((x1 : Nat) : Int) := by omega
      have dhb2I := decide_eq_false hb2I
      have h2I : ¬ (2 : Int) < (n : Nat) := by omega
      have dh2I := decide_eq_false h2I
      clear hs2
      go_enter Tryz.func98, Tryz.ntmps98
      go_wp2_with fail
      have hx1 := (Ext.refl w).alloc (.cells #[.int .u8 128, .int .u8 191] 164)
      have hbk := World.alloc_heap_new w (.cells #[.int .u8 128, .int .u8 191] 164)
      have HW := Lib.hid (show w.heap.size ≤ (w.alloc (.cells #[.int .u8 128, .int .u8 191] 164)).heap.size by rw [World.size_alloc]; omega)
      generalize w.alloc (.cells #[.int .u8 128, .int .u8 191] 164) = w1 at hx1 hbk ⊢
      generalize w.heap.size = ab at hbk ⊢
      have y0 : ∀ w', EOn (fun _ => True) w1 w' → w'.cell? ⟨ab, 0, none⟩ = some (.int .u8 128) := fun w' h => h.cell trivial ((cell_blk hbk 0).trans rfl)
      have y1 : ∀ w', EOn (fun _ => True) w1 w' → w'.cell? ⟨ab, 1, none⟩ = some (.int .u8 191) := fun w' h => h.cell trivial ((cell_blk hbk 1).trans rfl)
      try have y2 : ∀ w', EOn (fun _ => True) w1 w' → w'.cell? ⟨b, off + 1, none⟩ = some (.int .u8 x1) := fun w' h => h.cell trivial (hx1.cell hs1)
      try have HS2 := Lib.hid (hx1.cell hs2)
      have HX1 := Lib.hid hx1
      clear hbk hc0 ha0 ha1 hs0 hb HW hx1
      try clear hs1
      try clear hs2
      refine wp_lex (fun _ => True) [true, true, true, true, true, true, true, true, true, true, true, true, true, true, true, true, true, true] (by kernel_rfl) (by kernel_rfl) ?_
      repeat first
       | refine wpG_move' ?_
       | refine wpG_assign' ?_
       | refine wpG_val' ?_
       | refine wpG_no' ?_
      refine wpG_end (fun w5 hx5 => ?_)
      try have c2 := hx5.cell HS2.out
      have HX5 := Lib.hid (HX1.out.trans hx5)
      clear y0 y1 hx5 HX1
      try clear y2
      try clear HS2
      go_wp2_with fail
      refine gQ_normal ?_
      go_wp2_with fail
      all_goals (go_ret; refine ⟨congrArg (fun z => Ending.returned (Value.bool z)) ?_, HX5.out⟩)
      all_goals (rw [← HF.out]; first | (symm; simp only [Bool.or_eq_true, Bool.and_eq_true, decide_eq_true_eq]; omega) | (symm; rw [Bool.eq_false_iff]; simp only [ne_eq, Bool.or_eq_true, Bool.and_eq_true, decide_eq_true_eq]; omega))
   ·have h1I : ¬ (1 : Int) < (n : Nat) := by omega
    have dh1I := decide_eq_false h1I
    have h2I : ¬ (2 : Int) < (n : Nat) := by omega
    have dh2I := decide_eq_false h2I
    clear hs1 hs2
    go_enter Tryz.func98, Tryz.ntmps98
    go_wp2_with fail
    have hx1 := (Ext.refl w).alloc (.cells #[.int .u8 128, .int .u8 191] 164)
    have hbk := World.alloc_heap_new w (.cells #[.int .u8 128, .int .u8 191] 164)
    have HW := Lib.hid (show w.heap.size ≤ (w.alloc (.cells #[.int .u8 128, .int .u8 191] 164)).heap.size by rw [World.size_alloc]; omega)
    generalize w.alloc (.cells #[.int .u8 128, .int .u8 191] 164) = w1 at hx1 hbk ⊢
    generalize w.heap.size = ab at hbk ⊢
    have y0 : ∀ w', EOn (fun _ => True) w1 w' → w'.cell? ⟨ab, 0, none⟩ = some (.int .u8 128) := fun w' h => h.cell trivial ((cell_blk hbk 0).trans rfl)
    have y1 : ∀ w', EOn (fun _ => True) w1 w' → w'.cell? ⟨ab, 1, none⟩ = some (.int .u8 191) := fun w' h => h.cell trivial ((cell_blk hbk 1).trans rfl)
    try have y2 : ∀ w', EOn (fun _ => True) w1 w' → w'.cell? ⟨b, off + 1, none⟩ = some (.int .u8 x1) := fun w' h => h.cell trivial (hx1.cell hs1)
    try have HS2 := Lib.hid (hx1.cell hs2)
    have HX1 := Lib.hid hx1
    clear hbk hc0 ha0 ha1 hs0 hb HW hx1
    try clear hs1
    try clear hs2
    refine wp_lex (fun _ => True) [true, true, true, true, true, true, true, true, true, true, true, true, true, true, true, true, true, true] (by kernel_rfl) (by kernel_rfl) ?_
    repeat first
     | refine wpG_move' ?_
     | refine wpG_assign' ?_
     | refine wpG_val' ?_
     | refine wpG_no' ?_
    refine wpG_end (fun w5 hx5 => ?_)
    try have c2 := hx5.cell HS2.out
    have HX5 := Lib.hid (HX1.out.trans hx5)
    clear y0 y1 hx5 HX1
    try clear y2
    try clear HS2
    go_wp2_with fail
    refine gQ_normal ?_
    go_wp2_with fail
    all_goals (go_ret; refine ⟨congrArg (fun z => Ending.returned (Value.bool z)) ?_, HX5.out⟩)
    all_goals (rw [← HF.out]; first | (symm; simp only [Bool.or_eq_true, Bool.and_eq_true, decide_eq_true_eq]; omega) | (symm; rw [Bool.eq_false_iff]; simp only [ne_eq, Bool.or_eq_true, Bool.and_eq_true, decide_eq_true_eq]; omega))
 ·rw [hX] at hc0 hf2
  have ha0 := (hu8.2 2 (by omega)).1
  have ha1 := (hu8.2 2 (by omega)).2
  simp only [Lib.accLo, Lib.accHi, Nat.reduceMul, Nat.reduceAdd, Nat.reduceEqDiff, if_true, if_false, Nat.reduceMod, Nat.reduceDiv] at ha0 ha1 hf2
  have HF := Lib.hid hf2
  clear hf2 hfull hu8 hX
  by_cases hn : 3 ≤ n
  ·have hnI : (3 : Int) ≤ (n : Nat) := by omega
   clear hs1 hs2
   try (exfalso; omega)
   all_goals go_enter Tryz.func98, Tryz.ntmps98
   all_goals go_wp2_with fail
   all_goals (go_ret; refine ⟨congrArg (fun z => Ending.returned (Value.bool z)) ?_, (by first | exact Ext.refl _ | exact (Ext.refl w).alloc _)⟩)
   all_goals (rw [← HF.out]; first | (symm; simp only [Bool.or_eq_true, Bool.and_eq_true, decide_eq_true_eq]; omega) | (symm; rw [Bool.eq_false_iff]; simp only [ne_eq, Bool.or_eq_true, Bool.and_eq_true, decide_eq_true_eq]; omega))
  ·have hnI : ¬ (3 : Int) ≤ (n : Nat) := by omega
   rcases Nat.lt_or_ge 1 n with h1 | h1
   ·have h1I : (1 : Int) < (n : Nat) := by omega
    have dh1I := decide_eq_true h1I
    replace hs1 := hs1 h1
    by_cases hb1 : x1 < 128
    ·have hb1I : ((x1 : Nat) : Int) < 128 := by omega
     have dhb1I := decide_eq_true hb1I
     clear hs2
     go_enter Tryz.func98, Tryz.ntmps98
     go_wp2_with fail
     have hx1 := (Ext.refl w).alloc (.cells #[.int .u8 128, .int .u8 159] 164)
     have hbk := World.alloc_heap_new w (.cells #[.int .u8 128, .int .u8 159] 164)
     have HW := Lib.hid (show w.heap.size ≤ (w.alloc (.cells #[.int .u8 128, .int .u8 159] 164)).heap.size by rw [World.size_alloc]; omega)
     generalize w.alloc (.cells #[.int .u8 128, .int .u8 159] 164) = w1 at hx1 hbk ⊢
     generalize w.heap.size = ab at hbk ⊢
     have y0 : ∀ w', EOn (fun _ => True) w1 w' → w'.cell? ⟨ab, 0, none⟩ = some (.int .u8 128) := fun w' h => h.cell trivial ((cell_blk hbk 0).trans rfl)
     have y1 : ∀ w', EOn (fun _ => True) w1 w' → w'.cell? ⟨ab, 1, none⟩ = some (.int .u8 159) := fun w' h => h.cell trivial ((cell_blk hbk 1).trans rfl)
     try have y2 : ∀ w', EOn (fun _ => True) w1 w' → w'.cell? ⟨b, off + 1, none⟩ = some (.int .u8 x1) := fun w' h => h.cell trivial (hx1.cell hs1)
     try have HS2 := Lib.hid (hx1.cell hs2)
     have HX1 := Lib.hid hx1
     clear hbk hc0 ha0 ha1 hs0 hb HW hx1
     try clear hs1
     try clear hs2
     refine wp_lex (fun _ => True) [true, true, true, true, true, true, true, true, true, true, true, true, true, true, true, true, true, true] (by kernel_rfl) (by kernel_rfl) ?_
     repeat first
      | refine wpG_move' ?_
      | refine wpG_assign' ?_
      | refine wpG_val' ?_
      | refine wpG_no' ?_
     refine wpG_end (fun w5 hx5 => ?_)
     try have c2 := hx5.cell HS2.out
     have HX5 := Lib.hid (HX1.out.trans hx5)
     clear y0 y1 hx5 HX1
     try clear y2
     try clear HS2
     go_wp2_with fail
     refine gQ_normal ?_
     go_wp2_with fail
     all_goals (go_ret; refine ⟨congrArg (fun z => Ending.returned (Value.bool z)) ?_, HX5.out⟩)
     all_goals (rw [← HF.out]; first | (symm; simp only [Bool.or_eq_true, Bool.and_eq_true, decide_eq_true_eq]; omega) | (symm; rw [Bool.eq_false_iff]; simp only [ne_eq, Bool.or_eq_true, Bool.and_eq_true, decide_eq_true_eq]; omega))
    ·have hb1I : ¬ ((x1 : Nat) : Int) < 128 := by omega
     have dhb1I := decide_eq_false hb1I
     by_cases hb2 : 159 < x1
     ·have hb2I : 159 < ((x1 : Nat) : Int) := by omega
      have dhb2I := decide_eq_true hb2I
      clear hs2
      go_enter Tryz.func98, Tryz.ntmps98
      go_wp2_with fail
      have hx1 := (Ext.refl w).alloc (.cells #[.int .u8 128, .int .u8 159] 164)
      have hbk := World.alloc_heap_new w (.cells #[.int .u8 128, .int .u8 159] 164)
      have HW := Lib.hid (show w.heap.size ≤ (w.alloc (.cells #[.int .u8 128, .int .u8 159] 164)).heap.size by rw [World.size_alloc]; omega)
      generalize w.alloc (.cells #[.int .u8 128, .int .u8 159] 164) = w1 at hx1 hbk ⊢
      generalize w.heap.size = ab at hbk ⊢
      have y0 : ∀ w', EOn (fun _ => True) w1 w' → w'.cell? ⟨ab, 0, none⟩ = some (.int .u8 128) := fun w' h => h.cell trivial ((cell_blk hbk 0).trans rfl)
      have y1 : ∀ w', EOn (fun _ => True) w1 w' → w'.cell? ⟨ab, 1, none⟩ = some (.int .u8 159) := fun w' h => h.cell trivial ((cell_blk hbk 1).trans rfl)
      try have y2 : ∀ w', EOn (fun _ => True) w1 w' → w'.cell? ⟨b, off + 1, none⟩ = some (.int .u8 x1) := fun w' h => h.cell trivial (hx1.cell hs1)
      try have HS2 := Lib.hid (hx1.cell hs2)
      have HX1 := Lib.hid hx1
      clear hbk hc0 ha0 ha1 hs0 hb HW hx1
      try clear hs1
      try clear hs2
      refine wp_lex (fun _ => True) [true, true, true, true, true, true, true, true, true, true, true, true, true, true, true, true, true, true] (by kernel_rfl) (by kernel_rfl) ?_
      repeat first
       | refine wpG_move' ?_
       | refine wpG_assign' ?_
       | refine wpG_val' ?_
       | refine wpG_no' ?_
      refine wpG_end (fun w5 hx5 => ?_)
      try have c2 := hx5.cell HS2.out
      have HX5 := Lib.hid (HX1.out.trans hx5)
      clear y0 y1 hx5 HX1
      try clear y2
      try clear HS2
      go_wp2_with fail
      refine gQ_normal ?_
      go_wp2_with fail
      all_goals (go_ret; refine ⟨congrArg (fun z => Ending.returned (Value.bool z)) ?_, HX5.out⟩)
      all_goals (rw [← HF.out]; first | (symm; simp only [Bool.or_eq_true, Bool.and_eq_true, decide_eq_true_eq]; omega) | (symm; rw [Bool.eq_false_iff]; simp only [ne_eq, Bool.or_eq_true, Bool.and_eq_true, decide_eq_true_eq]; omega))
     ·have hb2I : ¬ 159 < ((x1 : Nat) : Int) := by omega
      have dhb2I := decide_eq_false hb2I
      have h2I : ¬ (2 : Int) < (n : Nat) := by omega
      have dh2I := decide_eq_false h2I
      clear hs2
      go_enter Tryz.func98, Tryz.ntmps98
      go_wp2_with fail
      have hx1 := (Ext.refl w).alloc (.cells #[.int .u8 128, .int .u8 159] 164)
      have hbk := World.alloc_heap_new w (.cells #[.int .u8 128, .int .u8 159] 164)
      have HW := Lib.hid (show w.heap.size ≤ (w.alloc (.cells #[.int .u8 128, .int .u8 159] 164)).heap.size by rw [World.size_alloc]; omega)
      generalize w.alloc (.cells #[.int .u8 128, .int .u8 159] 164) = w1 at hx1 hbk ⊢
      generalize w.heap.size = ab at hbk ⊢
      have y0 : ∀ w', EOn (fun _ => True) w1 w' → w'.cell? ⟨ab, 0, none⟩ = some (.int .u8 128) := fun w' h => h.cell trivial ((cell_blk hbk 0).trans rfl)
      have y1 : ∀ w', EOn (fun _ => True) w1 w' → w'.cell? ⟨ab, 1, none⟩ = some (.int .u8 159) := fun w' h => h.cell trivial ((cell_blk hbk 1).trans rfl)
      try have y2 : ∀ w', EOn (fun _ => True) w1 w' → w'.cell? ⟨b, off + 1, none⟩ = some (.int .u8 x1) := fun w' h => h.cell trivial (hx1.cell hs1)
      try have HS2 := Lib.hid (hx1.cell hs2)
      have HX1 := Lib.hid hx1
      clear hbk hc0 ha0 ha1 hs0 hb HW hx1
      try clear hs1
      try clear hs2
      refine wp_lex (fun _ => True) [true, true, true, true, true, true, true, true, true, true, true, true, true, true, true, true, true, true] (by kernel_rfl) (by kernel_rfl) ?_
      repeat first
       | refine wpG_move' ?_
       | refine wpG_assign' ?_
       | refine wpG_val' ?_
       | refine wpG_no' ?_
      refine wpG_end (fun w5 hx5 => ?_)
      try have c2 := hx5.cell HS2.out
      have HX5 := Lib.hid (HX1.out.trans hx5)
      clear y0 y1 hx5 HX1
      try clear y2
      try clear HS2
      go_wp2_with fail
      refine gQ_normal ?_
      go_wp2_with fail
      all_goals (go_ret; refine ⟨congrArg (fun z => Ending.returned (Value.bool z)) ?_, HX5.out⟩)
      all_goals (rw [← HF.out]; first | (symm; simp only [Bool.or_eq_true, Bool.and_eq_true, decide_eq_true_eq]; omega) | (symm; rw [Bool.eq_false_iff]; simp only [ne_eq, Bool.or_eq_true, Bool.and_eq_true, decide_eq_true_eq]; omega))
   ·have h1I : ¬ (1 : Int) < (n : Nat) := by omega
    have dh1I := decide_eq_false h1I
    have h2I : ¬ (2 : Int) < (n : Nat) := by omega
    have dh2I := decide_eq_false h2I
    clear hs1 hs2
    go_enter Tryz.func98, Tryz.ntmps98
    go_wp2_with fail
    have hx1 := (Ext.refl w).alloc (.cells #[.int .u8 128, .int .u8 159] 164)
    have hbk := World.alloc_heap_new w (.cells #[.int .u8 128, .int .u8 159] 164)
    have HW := Lib.hid (show w.heap.size ≤ (w.alloc (.cells #[.int .u8 128, .int .u8 159] 164)).heap.size by rw [World.size_alloc]; omega)
    generalize w.alloc (.cells #[.int .u8 128, .int .u8 159] 164) = w1 at hx1 hbk ⊢
    generalize w.heap.size = ab at hbk ⊢
    have y0 : ∀ w', EOn (fun _ => True) w1 w' → w'.cell? ⟨ab, 0, none⟩ = some (.int .u8 128) := fun w' h => h.cell trivial ((cell_blk hbk 0).trans rfl)
    have y1 : ∀ w', EOn (fun _ => True) w1 w' → w'.cell? ⟨ab, 1, none⟩ = some (.int .u8 159) := fun w' h => h.cell trivial ((cell_blk hbk 1).trans rfl)
    try have y2 : ∀ w', EOn (fun _ => True) w1 w' → w'.cell? ⟨b, off + 1, none⟩ = some (.int .u8 x1) := fun w' h => h.cell trivial (hx1.cell hs1)
    try have HS2 := Lib.hid (hx1.cell hs2)
    have HX1 := Lib.hid hx1
    clear hbk hc0 ha0 ha1 hs0 hb HW hx1
    try clear hs1
    try clear hs2
    refine wp_lex (fun _ => True) [true, true, true, true, true, true, true, true, true, true, true, true, true, true, true, true, true, true] (by kernel_rfl) (by kernel_rfl) ?_
    repeat first
     | refine wpG_move' ?_
     | refine wpG_assign' ?_
     | refine wpG_val' ?_
     | refine wpG_no' ?_
    refine wpG_end (fun w5 hx5 => ?_)
    try have c2 := hx5.cell HS2.out
    have HX5 := Lib.hid (HX1.out.trans hx5)
    clear y0 y1 hx5 HX1
    try clear y2
    try clear HS2
    go_wp2_with fail
    refine gQ_normal ?_
    go_wp2_with fail
    all_goals (go_ret; refine ⟨congrArg (fun z => Ending.returned (Value.bool z)) ?_, HX5.out⟩)
    all_goals (rw [← HF.out]; first | (symm; simp only [Bool.or_eq_true, Bool.and_eq_true, decide_eq_true_eq]; omega) | (symm; rw [Bool.eq_false_iff]; simp only [ne_eq, Bool.or_eq_true, Bool.and_eq_true, decide_eq_true_eq]; omega))
 ·rw [hX] at hc0 hf2
  have ha0 := (hu8.2 3 (by omega)).1
  have ha1 := (hu8.2 3 (by omega)).2
  simp only [Lib.accLo, Lib.accHi, Nat.reduceMul, Nat.reduceAdd, Nat.reduceEqDiff, if_true, if_false, Nat.reduceMod, Nat.reduceDiv] at ha0 ha1 hf2
  have HF := Lib.hid hf2
  clear hf2 hfull hu8 hX
  by_cases hn : 4 ≤ n
  ·have hnI : (4 : Int) ≤ (n : Nat) := by omega
   clear hs1 hs2
   try (exfalso; omega)
   all_goals go_enter Tryz.func98, Tryz.ntmps98
   all_goals go_wp2_with fail
   all_goals (go_ret; refine ⟨congrArg (fun z => Ending.returned (Value.bool z)) ?_, (by first | exact Ext.refl _ | exact (Ext.refl w).alloc _)⟩)
   all_goals (rw [← HF.out]; first | (symm; simp only [Bool.or_eq_true, Bool.and_eq_true, decide_eq_true_eq]; omega) | (symm; rw [Bool.eq_false_iff]; simp only [ne_eq, Bool.or_eq_true, Bool.and_eq_true, decide_eq_true_eq]; omega))
  ·have hnI : ¬ (4 : Int) ≤ (n : Nat) := by omega
   rcases Nat.lt_or_ge 1 n with h1 | h1
   ·have h1I : (1 : Int) < (n : Nat) := by omega
    have dh1I := decide_eq_true h1I
    replace hs1 := hs1 h1
    by_cases hb1 : x1 < 144
    ·have hb1I : ((x1 : Nat) : Int) < 144 := by omega
     have dhb1I := decide_eq_true hb1I
     clear hs2
     go_enter Tryz.func98, Tryz.ntmps98
     go_wp2_with fail
     have hx1 := (Ext.refl w).alloc (.cells #[.int .u8 144, .int .u8 191] 164)
     have hbk := World.alloc_heap_new w (.cells #[.int .u8 144, .int .u8 191] 164)
     have HW := Lib.hid (show w.heap.size ≤ (w.alloc (.cells #[.int .u8 144, .int .u8 191] 164)).heap.size by rw [World.size_alloc]; omega)
     generalize w.alloc (.cells #[.int .u8 144, .int .u8 191] 164) = w1 at hx1 hbk ⊢
     generalize w.heap.size = ab at hbk ⊢
     have y0 : ∀ w', EOn (fun _ => True) w1 w' → w'.cell? ⟨ab, 0, none⟩ = some (.int .u8 144) := fun w' h => h.cell trivial ((cell_blk hbk 0).trans rfl)
     have y1 : ∀ w', EOn (fun _ => True) w1 w' → w'.cell? ⟨ab, 1, none⟩ = some (.int .u8 191) := fun w' h => h.cell trivial ((cell_blk hbk 1).trans rfl)
     try have y2 : ∀ w', EOn (fun _ => True) w1 w' → w'.cell? ⟨b, off + 1, none⟩ = some (.int .u8 x1) := fun w' h => h.cell trivial (hx1.cell hs1)
     try have HS2 := Lib.hid (hx1.cell hs2)
     have HX1 := Lib.hid hx1
     clear hbk hc0 ha0 ha1 hs0 hb HW hx1
     try clear hs1
     try clear hs2
     refine wp_lex (fun _ => True) [true, true, true, true, true, true, true, true, true, true, true, true, true, true, true, true, true, true] (by kernel_rfl) (by kernel_rfl) ?_
     repeat first
      | refine wpG_move' ?_
      | refine wpG_assign' ?_
      | refine wpG_val' ?_
      | refine wpG_no' ?_
     refine wpG_end (fun w5 hx5 => ?_)
     try have c2 := hx5.cell HS2.out
     have HX5 := Lib.hid (HX1.out.trans hx5)
     clear y0 y1 hx5 HX1
     try clear y2
     try clear HS2
     go_wp2_with fail
     refine gQ_normal ?_
     go_wp2_with fail
     all_goals (go_ret; refine ⟨congrArg (fun z => Ending.returned (Value.bool z)) ?_, HX5.out⟩)
     all_goals (rw [← HF.out]; first | (symm; simp only [Bool.or_eq_true, Bool.and_eq_true, decide_eq_true_eq]; omega) | (symm; rw [Bool.eq_false_iff]; simp only [ne_eq, Bool.or_eq_true, Bool.and_eq_true, decide_eq_true_eq]; omega))
    ·have hb1I : ¬ ((x1 : Nat) : Int) < 144 := by omega
     have dhb1I := decide_eq_false hb1I
     by_cases hb2 : 191 < x1
     ·have hb2I : 191 < ((x1 : Nat) : Int) := by omega
      have dhb2I := decide_eq_true hb2I
      clear hs2
      go_enter Tryz.func98, Tryz.ntmps98
      go_wp2_with fail
      have hx1 := (Ext.refl w).alloc (.cells #[.int .u8 144, .int .u8 191] 164)
      have hbk := World.alloc_heap_new w (.cells #[.int .u8 144, .int .u8 191] 164)
      have HW := Lib.hid (show w.heap.size ≤ (w.alloc (.cells #[.int .u8 144, .int .u8 191] 164)).heap.size by rw [World.size_alloc]; omega)
      generalize w.alloc (.cells #[.int .u8 144, .int .u8 191] 164) = w1 at hx1 hbk ⊢
      generalize w.heap.size = ab at hbk ⊢
      have y0 : ∀ w', EOn (fun _ => True) w1 w' → w'.cell? ⟨ab, 0, none⟩ = some (.int .u8 144) := fun w' h => h.cell trivial ((cell_blk hbk 0).trans rfl)
      have y1 : ∀ w', EOn (fun _ => True) w1 w' → w'.cell? ⟨ab, 1, none⟩ = some (.int .u8 191) := fun w' h => h.cell trivial ((cell_blk hbk 1).trans rfl)
      try have y2 : ∀ w', EOn (fun _ => True) w1 w' → w'.cell? ⟨b, off + 1, none⟩ = some (.int .u8 x1) := fun w' h => h.cell trivial (hx1.cell hs1)
      try have HS2 := Lib.hid (hx1.cell hs2)
      have HX1 := Lib.hid hx1
      clear hbk hc0 ha0 ha1 hs0 hb HW hx1
      try clear hs1
      try clear hs2
      refine wp_lex (fun _ => True) [true, true, true, true, true, true, true, true, true, true, true, true, true, true, true, true, true, true] (by kernel_rfl) (by kernel_rfl) ?_
      repeat first
       | refine wpG_move' ?_
       | refine wpG_assign' ?_
       | refine wpG_val' ?_
       | refine wpG_no' ?_
      refine wpG_end (fun w5 hx5 => ?_)
      try have c2 := hx5.cell HS2.out
      have HX5 := Lib.hid (HX1.out.trans hx5)
      clear y0 y1 hx5 HX1
      try clear y2
      try clear HS2
      go_wp2_with fail
      refine gQ_normal ?_
      go_wp2_with fail
      all_goals (go_ret; refine ⟨congrArg (fun z => Ending.returned (Value.bool z)) ?_, HX5.out⟩)
      all_goals (rw [← HF.out]; first | (symm; simp only [Bool.or_eq_true, Bool.and_eq_true, decide_eq_true_eq]; omega) | (symm; rw [Bool.eq_false_iff]; simp only [ne_eq, Bool.or_eq_true, Bool.and_eq_true, decide_eq_true_eq]; omega))
     ·have hb2I : ¬ 191 < ((x1 : Nat) : Int) := by omega
      have dhb2I := decide_eq_false hb2I
      rcases Nat.lt_or_ge 2 n with h2 | h2
      ·have h2I : (2 : Int) < (n : Nat) := by omega
       have dh2I := decide_eq_true h2I
       replace hs2 := hs2 h2
       go_enter Tryz.func98, Tryz.ntmps98
       go_wp2_with fail
       have hx1 := (Ext.refl w).alloc (.cells #[.int .u8 144, .int .u8 191] 164)
       have hbk := World.alloc_heap_new w (.cells #[.int .u8 144, .int .u8 191] 164)
       have HW := Lib.hid (show w.heap.size ≤ (w.alloc (.cells #[.int .u8 144, .int .u8 191] 164)).heap.size by rw [World.size_alloc]; omega)
       generalize w.alloc (.cells #[.int .u8 144, .int .u8 191] 164) = w1 at hx1 hbk ⊢
       generalize w.heap.size = ab at hbk ⊢
       have y0 : ∀ w', EOn (fun _ => True) w1 w' → w'.cell? ⟨ab, 0, none⟩ = some (.int .u8 144) := fun w' h => h.cell trivial ((cell_blk hbk 0).trans rfl)
       have y1 : ∀ w', EOn (fun _ => True) w1 w' → w'.cell? ⟨ab, 1, none⟩ = some (.int .u8 191) := fun w' h => h.cell trivial ((cell_blk hbk 1).trans rfl)
       try have y2 : ∀ w', EOn (fun _ => True) w1 w' → w'.cell? ⟨b, off + 1, none⟩ = some (.int .u8 x1) := fun w' h => h.cell trivial (hx1.cell hs1)
       try have HS2 := Lib.hid (hx1.cell hs2)
       have HX1 := Lib.hid hx1
       clear hbk hc0 ha0 ha1 hs0 hb HW hx1
       try clear hs1
       try clear hs2
       refine wp_lex (fun _ => True) [true, true, true, true, true, true, true, true, true, true, true, true, true, true, true, true, true, true] (by kernel_rfl) (by kernel_rfl) ?_
       repeat first
        | refine wpG_move' ?_
        | refine wpG_assign' ?_
        | refine wpG_val' ?_
        | refine wpG_no' ?_
       refine wpG_end (fun w5 hx5 => ?_)
       try have c2 := hx5.cell HS2.out
       have HX5 := Lib.hid (HX1.out.trans hx5)
       clear y0 y1 hx5 HX1
       try clear y2
       try clear HS2
       go_wp2_with fail
       refine gQ_normal ?_
       go_wp2_with fail
       all_goals (go_ret; refine ⟨congrArg (fun z => Ending.returned (Value.bool z)) ?_, HX5.out⟩)
       all_goals (rw [← HF.out]; first | (symm; simp only [Bool.or_eq_true, Bool.and_eq_true, decide_eq_true_eq]; omega) | (symm; rw [Bool.eq_false_iff]; simp only [ne_eq, Bool.or_eq_true, Bool.and_eq_true, decide_eq_true_eq]; omega))
      ·have h2I : ¬ (2 : Int) < (n : Nat) := by omega
       have dh2I := decide_eq_false h2I
       clear hs2
       go_enter Tryz.func98, Tryz.ntmps98
       go_wp2_with fail
       have hx1 := (Ext.refl w).alloc (.cells #[.int .u8 144, .int .u8 191] 164)
       have hbk := World.alloc_heap_new w (.cells #[.int .u8 144, .int .u8 191] 164)
       have HW := Lib.hid (show w.heap.size ≤ (w.alloc (.cells #[.int .u8 144, .int .u8 191] 164)).heap.size by rw [World.size_alloc]; omega)
       generalize w.alloc (.cells #[.int .u8 144, .int .u8 191] 164) = w1 at hx1 hbk ⊢
       generalize w.heap.size = ab at hbk ⊢
       have y0 : ∀ w', EOn (fun _ => True) w1 w' → w'.cell? ⟨ab, 0, none⟩ = some (.int .u8 144) := fun w' h => h.cell trivial ((cell_blk hbk 0).trans rfl)
       have y1 : ∀ w', EOn (fun _ => True) w1 w' → w'.cell? ⟨ab, 1, none⟩ = some (.int .u8 191) := fun w' h => h.cell trivial ((cell_blk hbk 1).trans rfl)
       try have y2 : ∀ w', EOn (fun _ => True) w1 w' → w'.cell? ⟨b, off + 1, none⟩ = some (.int .u8 x1) := fun w' h => h.cell trivial (hx1.cell hs1)
       try have HS2 := Lib.hid (hx1.cell hs2)
       have HX1 := Lib.hid hx1
       clear hbk hc0 ha0 ha1 hs0 hb HW hx1
       try clear hs1
       try clear hs2
       refine wp_lex (fun _ => True) [true, true, true, true, true, true, true, true, true, true, true, true, true, true, true, true, true, true] (by kernel_rfl) (by kernel_rfl) ?_
       repeat first
        | refine wpG_move' ?_
        | refine wpG_assign' ?_
        | refine wpG_val' ?_
        | refine wpG_no' ?_
       refine wpG_end (fun w5 hx5 => ?_)
       try have c2 := hx5.cell HS2.out
       have HX5 := Lib.hid (HX1.out.trans hx5)
       clear y0 y1 hx5 HX1
       try clear y2
       try clear HS2
       go_wp2_with fail
       refine gQ_normal ?_
       go_wp2_with fail
       all_goals (go_ret; refine ⟨congrArg (fun z => Ending.returned (Value.bool z)) ?_, HX5.out⟩)
       all_goals (rw [← HF.out]; first | (symm; simp only [Bool.or_eq_true, Bool.and_eq_true, decide_eq_true_eq]; omega) | (symm; rw [Bool.eq_false_iff]; simp only [ne_eq, Bool.or_eq_true, Bool.and_eq_true, decide_eq_true_eq]; omega))
   ·have h1I : ¬ (1 : Int) < (n : Nat) := by omega
    have dh1I := decide_eq_false h1I
    have h2I : ¬ (2 : Int) < (n : Nat) := by omega
    have dh2I := decide_eq_false h2I
    clear hs1 hs2
    go_enter Tryz.func98, Tryz.ntmps98
    go_wp2_with fail
    have hx1 := (Ext.refl w).alloc (.cells #[.int .u8 144, .int .u8 191] 164)
    have hbk := World.alloc_heap_new w (.cells #[.int .u8 144, .int .u8 191] 164)
    have HW := Lib.hid (show w.heap.size ≤ (w.alloc (.cells #[.int .u8 144, .int .u8 191] 164)).heap.size by rw [World.size_alloc]; omega)
    generalize w.alloc (.cells #[.int .u8 144, .int .u8 191] 164) = w1 at hx1 hbk ⊢
    generalize w.heap.size = ab at hbk ⊢
    have y0 : ∀ w', EOn (fun _ => True) w1 w' → w'.cell? ⟨ab, 0, none⟩ = some (.int .u8 144) := fun w' h => h.cell trivial ((cell_blk hbk 0).trans rfl)
    have y1 : ∀ w', EOn (fun _ => True) w1 w' → w'.cell? ⟨ab, 1, none⟩ = some (.int .u8 191) := fun w' h => h.cell trivial ((cell_blk hbk 1).trans rfl)
    try have y2 : ∀ w', EOn (fun _ => True) w1 w' → w'.cell? ⟨b, off + 1, none⟩ = some (.int .u8 x1) := fun w' h => h.cell trivial (hx1.cell hs1)
    try have HS2 := Lib.hid (hx1.cell hs2)
    have HX1 := Lib.hid hx1
    clear hbk hc0 ha0 ha1 hs0 hb HW hx1
    try clear hs1
    try clear hs2
    refine wp_lex (fun _ => True) [true, true, true, true, true, true, true, true, true, true, true, true, true, true, true, true, true, true] (by kernel_rfl) (by kernel_rfl) ?_
    repeat first
     | refine wpG_move' ?_
     | refine wpG_assign' ?_
     | refine wpG_val' ?_
     | refine wpG_no' ?_
    refine wpG_end (fun w5 hx5 => ?_)
    try have c2 := hx5.cell HS2.out
    have HX5 := Lib.hid (HX1.out.trans hx5)
    clear y0 y1 hx5 HX1
    try clear y2
    try clear HS2
    go_wp2_with fail
    refine gQ_normal ?_
    go_wp2_with fail
    all_goals (go_ret; refine ⟨congrArg (fun z => Ending.returned (Value.bool z)) ?_, HX5.out⟩)
    all_goals (rw [← HF.out]; first | (symm; simp only [Bool.or_eq_true, Bool.and_eq_true, decide_eq_true_eq]; omega) | (symm; rw [Bool.eq_false_iff]; simp only [ne_eq, Bool.or_eq_true, Bool.and_eq_true, decide_eq_true_eq]; omega))
 ·rw [hX] at hc0 hf2
  have ha0 := (hu8.2 0 (by omega)).1
  have ha1 := (hu8.2 0 (by omega)).2
  simp only [Lib.accLo, Lib.accHi, Nat.reduceMul, Nat.reduceAdd, Nat.reduceEqDiff, if_true, if_false, Nat.reduceMod, Nat.reduceDiv] at ha0 ha1 hf2
  have HF := Lib.hid hf2
  clear hf2 hfull hu8 hX
  by_cases hn : 4 ≤ n
  ·have hnI : (4 : Int) ≤ (n : Nat) := by omega
   clear hs1 hs2
   try (exfalso; omega)
   all_goals go_enter Tryz.func98, Tryz.ntmps98
   all_goals go_wp2_with fail
   all_goals (go_ret; refine ⟨congrArg (fun z => Ending.returned (Value.bool z)) ?_, (by first | exact Ext.refl _ | exact (Ext.refl w).alloc _)⟩)
   all_goals (rw [← HF.out]; first | (symm; simp only [Bool.or_eq_true, Bool.and_eq_true, decide_eq_true_eq]; omega) | (symm; rw [Bool.eq_false_iff]; simp only [ne_eq, Bool.or_eq_true, Bool.and_eq_true, decide_eq_true_eq]; omega))
  ·have hnI : ¬ (4 : Int) ≤ (n : Nat) := by omega
   rcases Nat.lt_or_ge 1 n with h1 | h1
   ·have h1I : (1 : Int) < (n : Nat) := by omega
    have dh1I := decide_eq_true h1I
    replace hs1 := hs1 h1
    by_cases hb1 : x1 < 128
    ·have hb1I : ((x1 : Nat) : Int) < 128 := by omega
     have dhb1I := decide_eq_true hb1I
     clear hs2
     go_enter Tryz.func98, Tryz.ntmps98
     go_wp2_with fail
     have hx1 := (Ext.refl w).alloc (.cells #[.int .u8 128, .int .u8 191] 164)
     have hbk := World.alloc_heap_new w (.cells #[.int .u8 128, .int .u8 191] 164)
     have HW := Lib.hid (show w.heap.size ≤ (w.alloc (.cells #[.int .u8 128, .int .u8 191] 164)).heap.size by rw [World.size_alloc]; omega)
     generalize w.alloc (.cells #[.int .u8 128, .int .u8 191] 164) = w1 at hx1 hbk ⊢
     generalize w.heap.size = ab at hbk ⊢
     have y0 : ∀ w', EOn (fun _ => True) w1 w' → w'.cell? ⟨ab, 0, none⟩ = some (.int .u8 128) := fun w' h => h.cell trivial ((cell_blk hbk 0).trans rfl)
     have y1 : ∀ w', EOn (fun _ => True) w1 w' → w'.cell? ⟨ab, 1, none⟩ = some (.int .u8 191) := fun w' h => h.cell trivial ((cell_blk hbk 1).trans rfl)
     try have y2 : ∀ w', EOn (fun _ => True) w1 w' → w'.cell? ⟨b, off + 1, none⟩ = some (.int .u8 x1) := fun w' h => h.cell trivial (hx1.cell hs1)
     try have HS2 := Lib.hid (hx1.cell hs2)
     have HX1 := Lib.hid hx1
     clear hbk hc0 ha0 ha1 hs0 hb HW hx1
     try clear hs1
     try clear hs2
     refine wp_lex (fun _ => True) [true, true, true, true, true, true, true, true, true, true, true, true, true, true, true, true, true, true] (by kernel_rfl) (by kernel_rfl) ?_
     repeat first
      | refine wpG_move' ?_
      | refine wpG_assign' ?_
      | refine wpG_val' ?_
      | refine wpG_no' ?_
     refine wpG_end (fun w5 hx5 => ?_)
     try have c2 := hx5.cell HS2.out
     have HX5 := Lib.hid (HX1.out.trans hx5)
     clear y0 y1 hx5 HX1
     try clear y2
     try clear HS2
     go_wp2_with fail
     refine gQ_normal ?_
     go_wp2_with fail
     all_goals (go_ret; refine ⟨congrArg (fun z => Ending.returned (Value.bool z)) ?_, HX5.out⟩)
     all_goals (rw [← HF.out]; first | (symm; simp only [Bool.or_eq_true, Bool.and_eq_true, decide_eq_true_eq]; omega) | (symm; rw [Bool.eq_false_iff]; simp only [ne_eq, Bool.or_eq_true, Bool.and_eq_true, decide_eq_true_eq]; omega))
    ·have hb1I : ¬ ((x1 : Nat) : Int) < 128 := by omega
     have dhb1I := decide_eq_false hb1I
     by_cases hb2 : 191 < x1
     ·have hb2I : 191 < ((x1 : Nat) : Int) := by omega
      have dhb2I := decide_eq_true hb2I
      clear hs2
      go_enter Tryz.func98, Tryz.ntmps98
      go_wp2_with fail
      have hx1 := (Ext.refl w).alloc (.cells #[.int .u8 128, .int .u8 191] 164)
      have hbk := World.alloc_heap_new w (.cells #[.int .u8 128, .int .u8 191] 164)
      have HW := Lib.hid (show w.heap.size ≤ (w.alloc (.cells #[.int .u8 128, .int .u8 191] 164)).heap.size by rw [World.size_alloc]; omega)
      generalize w.alloc (.cells #[.int .u8 128, .int .u8 191] 164) = w1 at hx1 hbk ⊢
      generalize w.heap.size = ab at hbk ⊢
      have y0 : ∀ w', EOn (fun _ => True) w1 w' → w'.cell? ⟨ab, 0, none⟩ = some (.int .u8 128) := fun w' h => h.cell trivial ((cell_blk hbk 0).trans rfl)
      have y1 : ∀ w', EOn (fun _ => True) w1 w' → w'.cell? ⟨ab, 1, none⟩ = some (.int .u8 191) := fun w' h => h.cell trivial ((cell_blk hbk 1).trans rfl)
      try have y2 : ∀ w', EOn (fun _ => True) w1 w' → w'.cell? ⟨b, off + 1, none⟩ = some (.int .u8 x1) := fun w' h => h.cell trivial (hx1.cell hs1)
      try have HS2 := Lib.hid (hx1.cell hs2)
      have HX1 := Lib.hid hx1
      clear hbk hc0 ha0 ha1 hs0 hb HW hx1
      try clear hs1
      try clear hs2
      refine wp_lex (fun _ => True) [true, true, true, true, true, true, true, true, true, true, true, true, true, true, true, true, true, true] (by kernel_rfl) (by kernel_rfl) ?_
      repeat first
       | refine wpG_move' ?_
       | refine wpG_assign' ?_
       | refine wpG_val' ?_
       | refine wpG_no' ?_
      refine wpG_end (fun w5 hx5 => ?_)
      try have c2 := hx5.cell HS2.out
      have HX5 := Lib.hid (HX1.out.trans hx5)
      clear y0 y1 hx5 HX1
      try clear y2
      try clear HS2
      go_wp2_with fail
      refine gQ_normal ?_
      go_wp2_with fail
      all_goals (go_ret; refine ⟨congrArg (fun z => Ending.returned (Value.bool z)) ?_, HX5.out⟩)
      all_goals (rw [← HF.out]; first | (symm; simp only [Bool.or_eq_true, Bool.and_eq_true, decide_eq_true_eq]; omega) | (symm; rw [Bool.eq_false_iff]; simp only [ne_eq, Bool.or_eq_true, Bool.and_eq_true, decide_eq_true_eq]; omega))
     ·have hb2I : ¬ 191 < ((x1 : Nat) : Int) := by omega
      have dhb2I := decide_eq_false hb2I
      rcases Nat.lt_or_ge 2 n with h2 | h2
      ·have h2I : (2 : Int) < (n : Nat) := by omega
       have dh2I := decide_eq_true h2I
       replace hs2 := hs2 h2
       go_enter Tryz.func98, Tryz.ntmps98
       go_wp2_with fail
       have hx1 := (Ext.refl w).alloc (.cells #[.int .u8 128, .int .u8 191] 164)
       have hbk := World.alloc_heap_new w (.cells #[.int .u8 128, .int .u8 191] 164)
       have HW := Lib.hid (show w.heap.size ≤ (w.alloc (.cells #[.int .u8 128, .int .u8 191] 164)).heap.size by rw [World.size_alloc]; omega)
       generalize w.alloc (.cells #[.int .u8 128, .int .u8 191] 164) = w1 at hx1 hbk ⊢
       generalize w.heap.size = ab at hbk ⊢
       have y0 : ∀ w', EOn (fun _ => True) w1 w' → w'.cell? ⟨ab, 0, none⟩ = some (.int .u8 128) := fun w' h => h.cell trivial ((cell_blk hbk 0).trans rfl)
       have y1 : ∀ w', EOn (fun _ => True) w1 w' → w'.cell? ⟨ab, 1, none⟩ = some (.int .u8 191) := fun w' h => h.cell trivial ((cell_blk hbk 1).trans rfl)
       try have y2 : ∀ w', EOn (fun _ => True) w1 w' → w'.cell? ⟨b, off + 1, none⟩ = some (.int .u8 x1) := fun w' h => h.cell trivial (hx1.cell hs1)
       try have HS2 := Lib.hid (hx1.cell hs2)
       have HX1 := Lib.hid hx1
       clear hbk hc0 ha0 ha1 hs0 hb HW hx1
       try clear hs1
       try clear hs2
       refine wp_lex (fun _ => True) [true, true, true, true, true, true, true, true, true, true, true, true, true, true, true, true, true, true] (by kernel_rfl) (by kernel_rfl) ?_
       repeat first
        | refine wpG_move' ?_
        | refine wpG_assign' ?_
        | refine wpG_val' ?_
        | refine wpG_no' ?_
       refine wpG_end (fun w5 hx5 => ?_)
       try have c2 := hx5.cell HS2.out
       have HX5 := Lib.hid (HX1.out.trans hx5)
       clear y0 y1 hx5 HX1
       try clear y2
       try clear HS2
       go_wp2_with fail
       refine gQ_normal ?_
       go_wp2_with fail
       all_goals (go_ret; refine ⟨congrArg (fun z => Ending.returned (Value.bool z)) ?_, HX5.out⟩)
       all_goals (rw [← HF.out]; first | (symm; simp only [Bool.or_eq_true, Bool.and_eq_true, decide_eq_true_eq]; omega) | (symm; rw [Bool.eq_false_iff]; simp only [ne_eq, Bool.or_eq_true, Bool.and_eq_true, decide_eq_true_eq]; omega))
      ·have h2I : ¬ (2 : Int) < (n : Nat) := by omega
       have dh2I := decide_eq_false h2I
       clear hs2
       go_enter Tryz.func98, Tryz.ntmps98
       go_wp2_with fail
       have hx1 := (Ext.refl w).alloc (.cells #[.int .u8 128, .int .u8 191] 164)
       have hbk := World.alloc_heap_new w (.cells #[.int .u8 128, .int .u8 191] 164)
       have HW := Lib.hid (show w.heap.size ≤ (w.alloc (.cells #[.int .u8 128, .int .u8 191] 164)).heap.size by rw [World.size_alloc]; omega)
       generalize w.alloc (.cells #[.int .u8 128, .int .u8 191] 164) = w1 at hx1 hbk ⊢
       generalize w.heap.size = ab at hbk ⊢
       have y0 : ∀ w', EOn (fun _ => True) w1 w' → w'.cell? ⟨ab, 0, none⟩ = some (.int .u8 128) := fun w' h => h.cell trivial ((cell_blk hbk 0).trans rfl)
       have y1 : ∀ w', EOn (fun _ => True) w1 w' → w'.cell? ⟨ab, 1, none⟩ = some (.int .u8 191) := fun w' h => h.cell trivial ((cell_blk hbk 1).trans rfl)
       try have y2 : ∀ w', EOn (fun _ => True) w1 w' → w'.cell? ⟨b, off + 1, none⟩ = some (.int .u8 x1) := fun w' h => h.cell trivial (hx1.cell hs1)
       try have HS2 := Lib.hid (hx1.cell hs2)
       have HX1 := Lib.hid hx1
       clear hbk hc0 ha0 ha1 hs0 hb HW hx1
       try clear hs1
       try clear hs2
       refine wp_lex (fun _ => True) [true, true, true, true, true, true, true, true, true, true, true, true, true, true, true, true, true, true] (by kernel_rfl) (by kernel_rfl) ?_
       repeat first
        | refine wpG_move' ?_
        | refine wpG_assign' ?_
        | refine wpG_val' ?_
        | refine wpG_no' ?_
       refine wpG_end (fun w5 hx5 => ?_)
       try have c2 := hx5.cell HS2.out
       have HX5 := Lib.hid (HX1.out.trans hx5)
       clear y0 y1 hx5 HX1
       try clear y2
       try clear HS2
       go_wp2_with fail
       refine gQ_normal ?_
       go_wp2_with fail
       all_goals (go_ret; refine ⟨congrArg (fun z => Ending.returned (Value.bool z)) ?_, HX5.out⟩)
       all_goals (rw [← HF.out]; first | (symm; simp only [Bool.or_eq_true, Bool.and_eq_true, decide_eq_true_eq]; omega) | (symm; rw [Bool.eq_false_iff]; simp only [ne_eq, Bool.or_eq_true, Bool.and_eq_true, decide_eq_true_eq]; omega))
   ·have h1I : ¬ (1 : Int) < (n : Nat) := by omega
    have dh1I := decide_eq_false h1I
    have h2I : ¬ (2 : Int) < (n : Nat) := by omega
    have dh2I := decide_eq_false h2I
    clear hs1 hs2
    go_enter Tryz.func98, Tryz.ntmps98
    go_wp2_with fail
    have hx1 := (Ext.refl w).alloc (.cells #[.int .u8 128, .int .u8 191] 164)
    have hbk := World.alloc_heap_new w (.cells #[.int .u8 128, .int .u8 191] 164)
    have HW := Lib.hid (show w.heap.size ≤ (w.alloc (.cells #[.int .u8 128, .int .u8 191] 164)).heap.size by rw [World.size_alloc]; omega)
    generalize w.alloc (.cells #[.int .u8 128, .int .u8 191] 164) = w1 at hx1 hbk ⊢
    generalize w.heap.size = ab at hbk ⊢
    have y0 : ∀ w', EOn (fun _ => True) w1 w' → w'.cell? ⟨ab, 0, none⟩ = some (.int .u8 128) := fun w' h => h.cell trivial ((cell_blk hbk 0).trans rfl)
    have y1 : ∀ w', EOn (fun _ => True) w1 w' → w'.cell? ⟨ab, 1, none⟩ = some (.int .u8 191) := fun w' h => h.cell trivial ((cell_blk hbk 1).trans rfl)
    try have y2 : ∀ w', EOn (fun _ => True) w1 w' → w'.cell? ⟨b, off + 1, none⟩ = some (.int .u8 x1) := fun w' h => h.cell trivial (hx1.cell hs1)
    try have HS2 := Lib.hid (hx1.cell hs2)
    have HX1 := Lib.hid hx1
    clear hbk hc0 ha0 ha1 hs0 hb HW hx1
    try clear hs1
    try clear hs2
    refine wp_lex (fun _ => True) [true, true, true, true, true, true, true, true, true, true, true, true, true, true, true, true, true, true] (by kernel_rfl) (by kernel_rfl) ?_
    repeat first
     | refine wpG_move' ?_
     | refine wpG_assign' ?_
     | refine wpG_val' ?_
     | refine wpG_no' ?_
    refine wpG_end (fun w5 hx5 => ?_)
    try have c2 := hx5.cell HS2.out
    have HX5 := Lib.hid (HX1.out.trans hx5)
    clear y0 y1 hx5 HX1
    try clear y2
    try clear HS2
    go_wp2_with fail
    refine gQ_normal ?_
    go_wp2_with fail
    all_goals (go_ret; refine ⟨congrArg (fun z => Ending.returned (Value.bool z)) ?_, HX5.out⟩)
    all_goals (rw [← HF.out]; first | (symm; simp only [Bool.or_eq_true, Bool.and_eq_true, decide_eq_true_eq]; omega) | (symm; rw [Bool.eq_false_iff]; simp only [ne_eq, Bool.or_eq_true, Bool.and_eq_true, decide_eq_true_eq]; omega))
 ·rw [hX] at hc0 hf2
  have ha0 := (hu8.2 4 (by omega)).1
  have ha1 := (hu8.2 4 (by omega)).2
  simp only [Lib.accLo, Lib.accHi, Nat.reduceMul, Nat.reduceAdd, Nat.reduceEqDiff, if_true, if_false, Nat.reduceMod, Nat.reduceDiv] at ha0 ha1 hf2
  have HF := Lib.hid hf2
  clear hf2 hfull hu8 hX
  by_cases hn : 4 ≤ n
  ·have hnI : (4 : Int) ≤ (n : Nat) := by omega
   clear hs1 hs2
   try (exfalso; omega)
   all_goals go_enter Tryz.func98, Tryz.ntmps98
   all_goals go_wp2_with fail
   all_goals (go_ret; refine ⟨congrArg (fun z => Ending.returned (Value.bool z)) ?_, (by first | exact Ext.refl _ | exact (Ext.refl w).alloc _)⟩)
   all_goals (rw [← HF.out]; first | (symm; simp only [Bool.or_eq_true, Bool.and_eq_true, decide_eq_true_eq]; omega) | (symm; rw [Bool.eq_false_iff]; simp only [ne_eq, Bool.or_eq_true, Bool.and_eq_true, decide_eq_true_eq]; omega))
  ·have hnI : ¬ (4 : Int) ≤ (n : Nat) := by omega
   rcases Nat.lt_or_ge 1 n with h1 | h1
   ·have h1I : (1 : Int) < (n : Nat) := by omega
    have dh1I := decide_eq_true h1I
    replace hs1 := hs1 h1
    by_cases hb1 : x1 < 128
    ·have hb1I : ((x1 : Nat) : Int) < 128 := by omega
     have dhb1I := decide_eq_true hb1I
     clear hs2
     go_enter Tryz.func98, Tryz.ntmps98
     go_wp2_with fail
     have hx1 := (Ext.refl w).alloc (.cells #[.int .u8 128, .int .u8 143] 164)
     have hbk := World.alloc_heap_new w (.cells #[.int .u8 128, .int .u8 143] 164)
     have HW := Lib.hid (show w.heap.size ≤ (w.alloc (.cells #[.int .u8 128, .int .u8 143] 164)).heap.size by rw [World.size_alloc]; omega)
     generalize w.alloc (.cells #[.int .u8 128, .int .u8 143] 164) = w1 at hx1 hbk ⊢
     generalize w.heap.size = ab at hbk ⊢
     have y0 : ∀ w', EOn (fun _ => True) w1 w' → w'.cell? ⟨ab, 0, none⟩ = some (.int .u8 128) := fun w' h => h.cell trivial ((cell_blk hbk 0).trans rfl)
     have y1 : ∀ w', EOn (fun _ => True) w1 w' → w'.cell? ⟨ab, 1, none⟩ = some (.int .u8 143) := fun w' h => h.cell trivial ((cell_blk hbk 1).trans rfl)
     try have y2 : ∀ w', EOn (fun _ => True) w1 w' → w'.cell? ⟨b, off + 1, none⟩ = some (.int .u8 x1) := fun w' h => h.cell trivial (hx1.cell hs1)
     try have HS2 := Lib.hid (hx1.cell hs2)
     have HX1 := Lib.hid hx1
     clear hbk hc0 ha0 ha1 hs0 hb HW hx1
     try clear hs1
     try clear hs2
     refine wp_lex (fun _ => True) [true, true, true, true, true, true, true, true, true, true, true, true, true, true, true, true, true, true] (by kernel_rfl) (by kernel_rfl) ?_
     repeat first
      | refine wpG_move' ?_
      | refine wpG_assign' ?_
      | refine wpG_val' ?_
      | refine wpG_no' ?_
     refine wpG_end (fun w5 hx5 => ?_)
     try have c2 := hx5.cell HS2.out
     have HX5 := Lib.hid (HX1.out.trans hx5)
     clear y0 y1 hx5 HX1
     try clear y2
     try clear HS2
     go_wp2_with fail
     refine gQ_normal ?_
     go_wp2_with fail
     all_goals (go_ret; refine ⟨congrArg (fun z => Ending.returned (Value.bool z)) ?_, HX5.out⟩)
     all_goals (rw [← HF.out]; first | (symm; simp only [Bool.or_eq_true, Bool.and_eq_true, decide_eq_true_eq]; omega) | (symm; rw [Bool.eq_false_iff]; simp only [ne_eq, Bool.or_eq_true, Bool.and_eq_true, decide_eq_true_eq]; omega))
    ·have hb1I : ¬ ((x1 : Nat) : Int) < 128 := by omega
     have dhb1I := decide_eq_false hb1I
     by_cases hb2 : 143 < x1
     ·have hb2I : 143 < ((x1 : Nat) : Int) := by omega
      have dhb2I := decide_eq_true hb2I
      clear hs2
      go_enter Tryz.func98, Tryz.ntmps98
      go_wp2_with fail
      have hx1 := (Ext.refl w).alloc (.cells #[.int .u8 128, .int .u8 143] 164)
      have hbk := World.alloc_heap_new w (.cells #[.int .u8 128, .int .u8 143] 164)
      have HW := Lib.hid (show w.heap.size ≤ (w.alloc (.cells #[.int .u8 128, .int .u8 143] 164)).heap.size by rw [World.size_alloc]; omega)
      generalize w.alloc (.cells #[.int .u8 128, .int .u8 143] 164) = w1 at hx1 hbk ⊢
      generalize w.heap.size = ab at hbk ⊢
      have y0 : ∀ w', EOn (fun _ => True) w1 w' → w'.cell? ⟨ab, 0, none⟩ = some (.int .u8 128) := fun w' h => h.cell trivial ((cell_blk hbk 0).trans rfl)
      have y1 : ∀ w', EOn (fun _ => True) w1 w' → w'.cell? ⟨ab, 1, none⟩ = some (.int .u8 143) := fun w' h => h.cell trivial ((cell_blk hbk 1).trans rfl)
      try have y2 : ∀ w', EOn (fun _ => True) w1 w' → w'.cell? ⟨b, off + 1, none⟩ = some (.int .u8 x1) := fun w' h => h.cell trivial (hx1.cell hs1)
      try have HS2 := Lib.hid (hx1.cell hs2)
      have HX1 := Lib.hid hx1
      clear hbk hc0 ha0 ha1 hs0 hb HW hx1
      try clear hs1
      try clear hs2
      refine wp_lex (fun _ => True) [true, true, true, true, true, true, true, true, true, true, true, true, true, true, true, true, true, true] (by kernel_rfl) (by kernel_rfl) ?_
      repeat first
       | refine wpG_move' ?_
       | refine wpG_assign' ?_
       | refine wpG_val' ?_
       | refine wpG_no' ?_
      refine wpG_end (fun w5 hx5 => ?_)
      try have c2 := hx5.cell HS2.out
      have HX5 := Lib.hid (HX1.out.trans hx5)
      clear y0 y1 hx5 HX1
      try clear y2
      try clear HS2
      go_wp2_with fail
      refine gQ_normal ?_
      go_wp2_with fail
      all_goals (go_ret; refine ⟨congrArg (fun z => Ending.returned (Value.bool z)) ?_, HX5.out⟩)
      all_goals (rw [← HF.out]; first | (symm; simp only [Bool.or_eq_true, Bool.and_eq_true, decide_eq_true_eq]; omega) | (symm; rw [Bool.eq_false_iff]; simp only [ne_eq, Bool.or_eq_true, Bool.and_eq_true, decide_eq_true_eq]; omega))
     ·have hb2I : ¬ 143 < ((x1 : Nat) : Int) := by omega
      have dhb2I := decide_eq_false hb2I
      rcases Nat.lt_or_ge 2 n with h2 | h2
      ·have h2I : (2 : Int) < (n : Nat) := by omega
       have dh2I := decide_eq_true h2I
       replace hs2 := hs2 h2
       go_enter Tryz.func98, Tryz.ntmps98
       go_wp2_with fail
       have hx1 := (Ext.refl w).alloc (.cells #[.int .u8 128, .int .u8 143] 164)
       have hbk := World.alloc_heap_new w (.cells #[.int .u8 128, .int .u8 143] 164)
       have HW := Lib.hid (show w.heap.size ≤ (w.alloc (.cells #[.int .u8 128, .int .u8 143] 164)).heap.size by rw [World.size_alloc]; omega)
       generalize w.alloc (.cells #[.int .u8 128, .int .u8 143] 164) = w1 at hx1 hbk ⊢
       generalize w.heap.size = ab at hbk ⊢
       have y0 : ∀ w', EOn (fun _ => True) w1 w' → w'.cell? ⟨ab, 0, none⟩ = some (.int .u8 128) := fun w' h => h.cell trivial ((cell_blk hbk 0).trans rfl)
       have y1 : ∀ w', EOn (fun _ => True) w1 w' → w'.cell? ⟨ab, 1, none⟩ = some (.int .u8 143) := fun w' h => h.cell trivial ((cell_blk hbk 1).trans rfl)
       try have y2 : ∀ w', EOn (fun _ => True) w1 w' → w'.cell? ⟨b, off + 1, none⟩ = some (.int .u8 x1) := fun w' h => h.cell trivial (hx1.cell hs1)
       try have HS2 := Lib.hid (hx1.cell hs2)
       have HX1 := Lib.hid hx1
       clear hbk hc0 ha0 ha1 hs0 hb HW hx1
       try clear hs1
       try clear hs2
       refine wp_lex (fun _ => True) [true, true, true, true, true, true, true, true, true, true, true, true, true, true, true, true, true, true] (by kernel_rfl) (by kernel_rfl) ?_
       repeat first
        | refine wpG_move' ?_
        | refine wpG_assign' ?_
        | refine wpG_val' ?_
        | refine wpG_no' ?_
       refine wpG_end (fun w5 hx5 => ?_)
       try have c2 := hx5.cell HS2.out
       have HX5 := Lib.hid (HX1.out.trans hx5)
       clear y0 y1 hx5 HX1
       try clear y2
       try clear HS2
       go_wp2_with fail
       refine gQ_normal ?_
       go_wp2_with fail
       all_goals (go_ret; refine ⟨congrArg (fun z => Ending.returned (Value.bool z)) ?_, HX5.out⟩)
       all_goals (rw [← HF.out]; first | (symm; simp only [Bool.or_eq_true, Bool.and_eq_true, decide_eq_true_eq]; omega) | (symm; rw [Bool.eq_false_iff]; simp only [ne_eq, Bool.or_eq_true, Bool.and_eq_true, decide_eq_true_eq]; omega))
      ·have h2I : ¬ (2 : Int) < (n : Nat) := by omega
       have dh2I := decide_eq_false h2I
       clear hs2
       go_enter Tryz.func98, Tryz.ntmps98
       go_wp2_with fail
       have hx1 := (Ext.refl w).alloc (.cells #[.int .u8 128, .int .u8 143] 164)
       have hbk := World.alloc_heap_new w (.cells #[.int .u8 128, .int .u8 143] 164)
       have HW := Lib.hid (show w.heap.size ≤ (w.alloc (.cells #[.int .u8 128, .int .u8 143] 164)).heap.size by rw [World.size_alloc]; omega)
       generalize w.alloc (.cells #[.int .u8 128, .int .u8 143] 164) = w1 at hx1 hbk ⊢
       generalize w.heap.size = ab at hbk ⊢
       have y0 : ∀ w', EOn (fun _ => True) w1 w' → w'.cell? ⟨ab, 0, none⟩ = some (.int .u8 128) := fun w' h => h.cell trivial ((cell_blk hbk 0).trans rfl)
       have y1 : ∀ w', EOn (fun _ => True) w1 w' → w'.cell? ⟨ab, 1, none⟩ = some (.int .u8 143) := fun w' h => h.cell trivial ((cell_blk hbk 1).trans rfl)
       try have y2 : ∀ w', EOn (fun _ => True) w1 w' → w'.cell? ⟨b, off + 1, none⟩ = some (.int .u8 x1) := fun w' h => h.cell trivial (hx1.cell hs1)
       try have HS2 := Lib.hid (hx1.cell hs2)
       have HX1 := Lib.hid hx1
       clear hbk hc0 ha0 ha1 hs0 hb HW hx1
       try clear hs1
       try clear hs2
       refine wp_lex (fun _ => True) [true, true, true, true, true, true, true, true, true, true, true, true, true, true, true, true, true, true] (by kernel_rfl) (by kernel_rfl) ?_
       repeat first
        | refine wpG_move' ?_
        | refine wpG_assign' ?_
        | refine wpG_val' ?_
        | refine wpG_no' ?_
       refine wpG_end (fun w5 hx5 => ?_)
       try have c2 := hx5.cell HS2.out
       have HX5 := Lib.hid (HX1.out.trans hx5)
       clear y0 y1 hx5 HX1
       try clear y2
       try clear HS2
       go_wp2_with fail
       refine gQ_normal ?_
       go_wp2_with fail
       all_goals (go_ret; refine ⟨congrArg (fun z => Ending.returned (Value.bool z)) ?_, HX5.out⟩)
       all_goals (rw [← HF.out]; first | (symm; simp only [Bool.or_eq_true, Bool.and_eq_true, decide_eq_true_eq]; omega) | (symm; rw [Bool.eq_false_iff]; simp only [ne_eq, Bool.or_eq_true, Bool.and_eq_true, decide_eq_true_eq]; omega))
   ·have h1I : ¬ (1 : Int) < (n : Nat) := by omega
    have dh1I := decide_eq_false h1I
    have h2I : ¬ (2 : Int) < (n : Nat) := by omega
    have dh2I := decide_eq_false h2I
    clear hs1 hs2
    go_enter Tryz.func98, Tryz.ntmps98
    go_wp2_with fail
    have hx1 := (Ext.refl w).alloc (.cells #[.int .u8 128, .int .u8 143] 164)
    have hbk := World.alloc_heap_new w (.cells #[.int .u8 128, .int .u8 143] 164)
    have HW := Lib.hid (show w.heap.size ≤ (w.alloc (.cells #[.int .u8 128, .int .u8 143] 164)).heap.size by rw [World.size_alloc]; omega)
    generalize w.alloc (.cells #[.int .u8 128, .int .u8 143] 164) = w1 at hx1 hbk ⊢
    generalize w.heap.size = ab at hbk ⊢
    have y0 : ∀ w', EOn (fun _ => True) w1 w' → w'.cell? ⟨ab, 0, none⟩ = some (.int .u8 128) := fun w' h => h.cell trivial ((cell_blk hbk 0).trans rfl)
    have y1 : ∀ w', EOn (fun _ => True) w1 w' → w'.cell? ⟨ab, 1, none⟩ = some (.int .u8 143) := fun w' h => h.cell trivial ((cell_blk hbk 1).trans rfl)
    try have y2 : ∀ w', EOn (fun _ => True) w1 w' → w'.cell? ⟨b, off + 1, none⟩ = some (.int .u8 x1) := fun w' h => h.cell trivial (hx1.cell hs1)
    try have HS2 := Lib.hid (hx1.cell hs2)
    have HX1 := Lib.hid hx1
    clear hbk hc0 ha0 ha1 hs0 hb HW hx1
    try clear hs1
    try clear hs2
    refine wp_lex (fun _ => True) [true, true, true, true, true, true, true, true, true, true, true, true, true, true, true, true, true, true] (by kernel_rfl) (by kernel_rfl) ?_
    repeat first
     | refine wpG_move' ?_
     | refine wpG_assign' ?_
     | refine wpG_val' ?_
     | refine wpG_no' ?_
    refine wpG_end (fun w5 hx5 => ?_)
    try have c2 := hx5.cell HS2.out
    have HX5 := Lib.hid (HX1.out.trans hx5)
    clear y0 y1 hx5 HX1
    try clear y2
    try clear HS2
    go_wp2_with fail
    refine gQ_normal ?_
    go_wp2_with fail
    all_goals (go_ret; refine ⟨congrArg (fun z => Ending.returned (Value.bool z)) ?_, HX5.out⟩)
    all_goals (rw [← HF.out]; first | (symm; simp only [Bool.or_eq_true, Bool.and_eq_true, decide_eq_true_eq]; omega) | (symm; rw [Bool.eq_false_iff]; simp only [ne_eq, Bool.or_eq_true, Bool.and_eq_true, decide_eq_true_eq]; omega))
end Go.Proofs.YteokfknkcbmigaaGreatDoor
