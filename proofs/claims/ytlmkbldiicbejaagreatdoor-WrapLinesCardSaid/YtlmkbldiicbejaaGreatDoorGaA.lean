/-
  The classes of a text's runes.
-/
import Derived.Test.YtlmkbldiicbejaaGreatDoorPrXZ
import Derived.Test.YtlmkbldiicbejaaGreatDoorPlainM
import Derived.Lib.OthersKept
namespace Go.Proofs.YtlmkbldiicbejaaGreatDoor
open Go.RowKit Go.Rp Go.Maps Go.Cl Go.Shelf Go.Gr

theorem dec_wid (s : ByteArray) (i : Nat) : (Utf8.decode s i).2 = wid (s.data.toList.drop i) := by rw [dec_at]; rfl
theorem dec_run (s : ByteArray) (i : Nat) : (Utf8.decode s i).1 = run (s.data.toList.drop i) := by rw [dec_at]; rfl
theorem drop_ne (s : ByteArray) (i : Nat) (h : i < s.size) : s.data.toList.drop i ≠ [] := by
  intro e
  have := congrArg List.length e
  simp at this
  change s.size - i = 0 at this
  omega
theorem dec_le (s : ByteArray) (k : Nat) (h : k < s.size) : 1 ≤ (Utf8.decode s k).2 ∧ k + (Utf8.decode s k).2 ≤ s.size := by
  rw [dec_wid]
  have h1 := wid_le _ (drop_ne s k h)
  have h2 := wid_pos (s.data.toList.drop k)
  simp only [List.length_drop, len_eq] at h1
  omega
theorem dec_max (s : ByteArray) (i : Nat) : (Utf8.decode s i).1 ≤ 1114111 := by
  rw [dec_at]
  unfold dec
  have := ((s.data.toList.drop i).getD 0 0).toNat_lt
  unfold Go.Lib.decodeN
  repeat' split
  all_goals (simp only; omega)
theorem marks_step (n : Nat) (l : List UInt8) (p : Nat) (h : l ≠ []) : marks (n + 1) l p = (run l, p, p + wid l) :: marks n (l.drop (wid l)) (p + wid l) := by simp [marks, h]
theorem marks_nil (n p : Nat) : marks n [] p = [] := by cases n <;> simp [marks]
theorem marks_len (n : Nat) : ∀ (l : List UInt8) (p : Nat), (marks n l p).length ≤ l.length := by
  induction n with
  | zero => intro l p; simp [marks]
  | succ n ih =>
    intro l p
    by_cases h : l = []
    · subst h; simp [marks_nil]
    · rw [marks_step _ _ _ h]
      have h1 := ih (l.drop (wid l)) (p + wid l)
      have h2 := wid_pos l
      have h3 := wid_le l h
      simp only [List.length_drop] at h1
      simp only [List.length_cons]
      omega
/-- The runes of a text with their places. -/
def mk (s : ByteArray) : List (Nat × Nat × Nat) := marks s.size s.data.toList 0
/-- A run over a text stands at its i-th rune. -/
def AtM (s : ByteArray) (i pos : Nat) : Prop := ∃ f, (mk s).drop i = marks f (s.data.toList.drop pos) pos ∧ s.size ≤ f + pos ∧ pos ≤ s.size ∧ i ≤ (mk s).length
theorem AtM.start (s : ByteArray) : AtM s 0 0 := ⟨s.size, rfl, by omega, by omega, by omega⟩
theorem AtM.step {s : ByteArray} {i pos : Nat} (h : AtM s i pos) (hlt : pos < s.size) : ∃ h : i < (mk s).length, (mk s)[i] = ((Utf8.decode s pos).1, pos, pos + (Utf8.decode s pos).2) ∧ AtM s (i + 1) (pos + (Utf8.decode s pos).2) := by
  obtain ⟨f, h1, h2, h3, h4⟩ := h
  obtain ⟨f', rfl⟩ : ∃ f', f = f' + 1 := ⟨f - 1, by omega⟩
  have hd := dec_le s pos hlt
  rw [marks_step _ _ _ (drop_ne s pos hlt), ← dec_run, ← dec_wid, List.drop_drop] at h1
  have hl : i < (mk s).length := by
    apply Decidable.byContradiction
    intro hn
    rw [List.drop_of_length_le (by omega)] at h1
    cases h1
  rw [List.drop_eq_getElem_cons hl] at h1
  obtain ⟨e1, e2⟩ := List.cons.inj h1
  exact ⟨hl, e1, f', e2, by omega, hd.2, hl⟩
theorem AtM.stop {s : ByteArray} {i pos : Nat} (h : AtM s i pos) (hlt : ¬ pos < s.size) : i = (mk s).length := by
  obtain ⟨f, h1, h2, h3, h4⟩ := h
  rw [List.drop_of_length_le (l := s.data.toList) (by rw [len_eq]; omega), marks_nil] at h1
  have := List.drop_eq_nil_iff.1 h1
  omega
theorem AtM.le {s : ByteArray} {i pos : Nat} (h : AtM s i pos) : i ≤ (mk s).length := h.choose_spec.2.2.2
theorem mk_len (s : ByteArray) : (mk s).length ≤ s.size := by have := marks_len s.size s.data.toList 0; rw [len_eq] at this; exact this
theorem rnN_nat (r : Nat) (h : r ≤ 1114111) : rnN (r : Nat) = r := by
  unfold rnN
  rw [if_neg (by omega)]
  simp
/-- Numbers in cells. -/
def nW (l : List Nat) : List Value := l.map fun n => Value.int .i64 (n : Nat)
theorem nW_app (a b : List Nat) : nW (a ++ b) = nW a ++ nW b := by simp [nW]
theorem iterPos_of {w : World} {k : Nat} {s : ByteArray} {pos : Nat} (h : w.heap[k]? = some (.stringIter s pos)) : w.iterPos k = pos := by
  rw [World.iterPos, h]
theorem Tryz.infoI : (Tryz.prog.info? 3).map (fun i => (i.zero, i.size, i.bytes)) = some (some (.int .i64 0), 1, 8) := by kernel_rfl

section
variable {ops : Array Oper} {rest : List Oper} {o : Oper} {a : Act} {Q : Exit → Act → World → Prop}
/-- A number behind a row of numbers. -/
theorem wpList_appI (hgd : o.guard = none) (s x : Operand) (ho : o.op = .call { callee := .builtin .append, args := #[s, x], argTypes := #[33, 33] })
    {B : Nat} {wr : World} {v : Value} {n : Nat} {xs : List Value} (hs : a.eval s = v) (hown : wr.ownsRow B 3 1 v n xs) (hB : B ≤ wr.heap.size)
    (k : Int) (nb : Nat) (hnb : nb = wr.heap.size) (hxv : a.eval x = .slice (some ⟨nb, 0, none⟩) 1 1) (hn : n ≤ 100000000)
    (h : ∀ v' w', w'.ownsRow B 3 1 v' (n + 1) (xs ++ [.int .i64 k]) → wr.grownBy w' v.ownBlock → wpList Tryz.prog ops Q rest (a.put o.dst v') w') : wpList Tryz.prog ops Q (o :: rest) a (wr.alloc (.cells #[.int .i64 k] 3)) := by
  subst hnb
  obtain ⟨i0, hi0, hz0, hz1, hz3⟩ := info_parts Tryz.infoI
  have hown1 := ownsRow_ext hown ((Ext.refl wr).alloc (.cells #[.int .i64 k] 3))
  refine wpList_append_own _ hgd s x 33 ho B 3 i0 (.int .i64 0) 1 8 Tryz.underlying33 hi0 hz0 hz1 hz3 rfl (by decide) v n xs hs hown1 ⟨wr.heap.size, 0, none⟩ 1 1 [.int .i64 k] hxv rfl (World.news_of_block (World.alloc_heap_new wr (.cells #[.int .i64 k] 3))) (by intro u hu; simp at hu; subst hu; rfl) (by unfold maxLen; omega) (by omega) (by rw [World.size_alloc]; omega) ?_
  intro v' w' h2 h3 _
  exact h v' w' h2 ((grown_ext ((Ext.refl wr).alloc _) _).trans h3)
end
set_option maxRecDepth 100000 in
set_option maxHeartbeats 4000000 in
theorem c_Of (db : Nat) (N : List (List UInt8)) (D : List (Nat × Nat × Nat)) (s : ByteArray) (w : World) (h : DbIs w db N D) (hs : RiseD D) (hl : D.length ≤ 10000) (hz : s.size ≤ 65536) :
    Calls Tryz.prog 146 #[.pointer (some ⟨db, 0, none⟩), .string s] w fun e w' => ∃ v, e = .returned v ∧ w'.ownsRow w.heap.size 3 1 v (mk s).length (nW ((mk s).map fun m => getR D m.1)) ∧ Ext w w' := by
  have HD := Lib.hid h
  have HS := Lib.hid hs
  clear h hs
  go_enter Tryz.func146, Tryz.ntmps146
  go_wp2
  go_loopw [5, 7] (fun v _ W => ∃ i pos : Nat, W.heap[w.heap.size]? = some (.stringIter s pos) ∧ Hid (AtM s i pos) ∧ W.ownsRow (w.heap.size + 1) 3 1 v i (nW (((mk s).take i).map fun m => getR D m.1)) ∧ Ext w W) (fun _ _ W => s.size - W.iterPos w.heap.size)
  case atStart => exact ⟨0, 0, World.iter_heap w s 0, Lib.hid (AtM.start s), by simpa [nW] using World.ownsRow_nil _ _ _ _, (Ext.refl w).iter s 0⟩
  case round =>
    obtain ⟨i, pos, hit, HA, hown, hx⟩ := hrel
    obtain ⟨W, rfl⟩ : ∃ W, W = wr := ⟨_, rfl⟩
    have hpos := iterPos_of hit
    by_cases hlt : pos < s.size
    · have hnx : ∀ ty, (Instr.next (.pointer (some ⟨w.heap.size, 0, none⟩)) true ty).run Tryz.prog W = _ := fun ty => Lib.run_next_any_at W w.heap.size s pos ty hit hlt
      have HM := Lib.hid (HA.out.step hlt)
      have hmx := dec_max s pos
      obtain ⟨p, cap, rfl⟩ := own_slice hown
      have hd := dec_le s pos hlt
      generalize Utf8.decode s pos = d at hnx HM hmx hd
      have hx1 : Ext w _ := Lib.below_iterAt hx (Nat.le_refl _) s (pos + d.2)
      have hit1 := Lib.iterAt_heap W w.heap.size s pos (pos + d.2) hit
      have hown1 := ownsRow_iterAt hown (Nat.lt_succ_self w.heap.size) s (pos + d.2)
      generalize W.iterAt w.heap.size s (pos + d.2) = W1 at hnx hx1 hit1 hown1
      have HG := Lib.hid (c_Get db N D d.1 W1 (HD.out.ext hx1) HS.out hl (by omega) (by omega))
      have HS1 := Lib.hid (And.intro hx1 (And.intro hit1 hown1))
      clear hx1 hit1 hown1 hown
      go_wp2_with fail
      refine HG.out.mono ?_
      rintro e w1 ⟨rfl, hx1⟩
      rw [rnN_nat _ hmx]
      have HS2 := Lib.hid (And.intro (HS1.out.1.trans hx1) (And.intro (hx1.blk HS1.out.2.1) (ownsRow_ext HS1.out.2.2 hx1)))
      clear hx1 HS1 HG
      go_wp2_with (at_builtin; refine Hid.out ?_)
      refine wpList_appI (n := i) rfl (.tmp 15) (.tmp 19) rfl rfl HS2.out.2.2 (blk_lt HS2.out.2.1) _ _ rfl rfl (by have := HA.out.le; have := mk_len s; omega) ?_
      intro v' w' h1 h2
      obtain ⟨p', c', rfl⟩ := own_slice h1
      have HS3 := Lib.hid (And.intro h1 h2)
      clear h1 h2
      go_wp2_with fail
      obtain ⟨hi, hm, ha⟩ := HM.out
      have hit3 : w'.heap[w.heap.size]? = some (.stringIter s (pos + d.2)) := (HS3.out.2.block _ (blk_lt HS2.out.2.1) (fun e => by have := HS2.out.2.2.lt _ e.symm; omega)).trans HS2.out.2.1
      have hx3 : Ext w w' := Below.grown HS2.out.1 HS3.out.2 HS2.out.1.sz (fun k e => by have := HS2.out.2.2.lt _ e; omega)
      refine ⟨⟨i + 1, pos + d.2, hit3, Lib.hid ha, ?_, hx3⟩, by rw [iterPos_of hit3, hpos]; omega⟩
      rw [List.take_succ_eq_append_getElem hi, List.map_append, nW_app, hm]
      exact HS3.out.1
    · have hnx : ∀ ty, (Instr.next (.pointer (some ⟨w.heap.size, 0, none⟩)) true ty).run Tryz.prog W = _ := fun ty => Lib.run_next_end_at W w.heap.size s pos ty hit hlt
      have HE := Lib.hid (HA.out.stop hlt)
      have HO := Lib.hid hown
      clear hown
      go_wp2_with fail
      refine ret_one rfl rfl rfl ⟨_, rfl, ?_, hx⟩
      have := own_lower HO.out (Nat.le_succ _)
      rw [HE.out, List.take_length] at this
      exact this
end Go.Proofs.YtlmkbldiicbejaaGreatDoor
