/-
  The runes from a place on, handed to the body of a loop.
-/
import Derived.LoopNIn
import Derived.LoopIn
import Derived.Test.YtohpekbooapcjaaDoorPlaceC
namespace Go.Rp
theorem marks_next (n : Nat) : ∀ (l : List UInt8) (p i : Nat), l.length ≤ n → ∀ (h : i < (marks n l p).length), (∀ h2 : i + 1 < (marks n l p).length, (marks n l p)[i + 1].2.1 = (marks n l p)[i].2.2) ∧ (i + 1 = (marks n l p).length → (marks n l p)[i].2.2 = p + l.length) := by
  induction n with
  | zero => intro l p i hn h; simp [marks] at h
  | succ n ih =>
    intro l p i hn h
    by_cases h0 : l = []
    · subst h0; simp [marks] at h
    · have hp := wid_pos l
      have hw := wid_le l h0
      have e1 : marks (n + 1) l p = (run l, p, p + wid l) :: marks n (l.drop (wid l)) (p + wid l) := by simp [marks, h0]
      simp only [e1, List.length_cons] at h ⊢
      have hd : (l.drop (wid l)).length ≤ n := by simp; omega
      cases i with
      | zero =>
        refine ⟨fun h2 => ?_, fun h2 => ?_⟩
        · simp only [List.getElem_cons_succ, List.getElem_cons_zero]
          obtain ⟨q, g1, g2, g3, g4⟩ := marks_get n (l.drop (wid l)) (p + wid l) 0 hd (by omega)
          have hq : q = 0 := by
            have := congrArg List.length g4
            simp only [List.take_zero, List.length_nil] at this
            have h3 := (marks_runes n ((l.drop (wid l)).take q) (p + wid l) (by simp; omega)).1
            apply Decidable.byContradiction
            intro hne
            have h4 := runes_skip ((l.drop (wid l)).take q) (take_ne _ q (by omega) (by intro e; rw [e] at g2; simp at g2))
            omega
          rw [g1, hq]
          rfl
        · simp only [List.getElem_cons_zero]
          have h3 := (marks_runes n (l.drop (wid l)) (p + wid l) hd).1
          have h4 : l.drop (wid l) = [] := by
            apply Decidable.byContradiction
            intro hne
            have := runes_skip _ hne
            omega
          have := congrArg List.length h4
          simp at this
          omega
      | succ i =>
        have := ih (l.drop (wid l)) (p + wid l) i hd (by omega)
        refine ⟨fun h2 => ?_, fun h2 => ?_⟩
        · simp only [List.getElem_cons_succ]
          exact this.1 (by omega)
        · simp only [List.getElem_cons_succ]
          rw [this.2 (by omega)]
          simp
          omega
end Go.Rp
namespace Go.Proofs.YtohpekbooapcjaaDoor
open Go.RowKit Go.Rp

attribute [local go_sem] Oper.semAt_some

theorem runeAt_mark (s : ByteArray) (j : Nat) (h : j < (marks s.size s.data.toList 0).length) : runeAt (marks s.size s.data.toList 0) ((marks s.size s.data.toList 0)[j].2.1 : Nat) = ((marks s.size s.data.toList 0)[j].1, (marks s.size s.data.toList 0)[j].2.2 - (marks s.size s.data.toList 0)[j].2.1) := by
  have hl := len_eq s
  obtain ⟨q, g1, g2, g3, g4⟩ := marks_get s.size s.data.toList 0 j (by omega) h
  have := runeAt_pl s q (by omega) g3
  rw [g1]
  simp only [Nat.zero_add]
  rw [this]
  simp
theorem runeAt_end (s : ByteArray) (q : Int) (h : (s.size : Int) ≤ q) : runeAt (marks s.size s.data.toList 0) q = (0, 0) := runeAt_not s q (fun k hk hlt => by omega)

/-- The runes from the i-th on: where each begins, and what it is. -/
def itemsOf (M : List (Nat × Nat × Nat)) (i : Nat) : List (Nat × Nat) := (M.drop i).map (fun m => (m.2.1, m.1))
theorem itemsOf_cons (M : List (Nat × Nat × Nat)) (i : Nat) (h : i < M.length) : itemsOf M i = (M[i].2.1, M[i].1) :: itemsOf M (i + 1) := by
  unfold itemsOf
  rw [List.drop_eq_getElem_cons h]
  rfl
/-- What a walk through the runes stands at. -/
def StandsAt (M : List (Nat × Nat × Nat)) (j : Nat) (q : Int) : Prop := (∀ h : j < M.length, q = (M[j].2.1 : Nat)) ∧ (j = M.length → runeAt M q = (0, 0))

theorem items_step (M : List (Nat × Nat × Nat)) (first j : Nat) (h1 : first ≤ j) (h : j < M.length) : (itemsOf M first).take (j + 1 - first) = (itemsOf M first).take (j - first) ++ [(M[j].2.1, M[j].1)] := by
  have hl : (itemsOf M first).length = M.length - first := by simp [itemsOf]
  rw [show j + 1 - first = j - first + 1 from by omega, List.take_succ_eq_append_getElem (by omega)]
  congr 2
  have e : first + (j - first) = j := by omega
  simp only [itemsOf, List.getElem_map, List.getElem_drop, e]
theorem grown_ext {w w' : World} (h : Ext w w') : w.grownBy w' none := ⟨h.os, h.tape, h.output, h.size, fun k hk _ => h.block k hk⟩

theorem c_Each (p : Option Addr) (q : Int) (w : World) : Calls Tryd.prog 34 #[.pointer p, .int .i64 q] w fun e w' => e = .returned (.func (.func 57) #[] #[.pointer (some ⟨w.heap.size + 1, 0, none⟩), .pointer (some ⟨w.heap.size, 0, none⟩)]) ∧ w' = (w.alloc (.cells #[.pointer p] 25)).alloc (.cells #[.int .i64 q] 3) := by
  go_enter Tryd.func34, Tryd.ntmps34
  go_wp2_with fail
  exact ret_one rfl rfl rfl ⟨rfl, rfl⟩

set_option maxRecDepth 100000 in
set_option maxHeartbeats 4000000 in
/-- The function that Each hands back. -/
theorem each_stops (p : Option Addr) (o : Option T) (at_ : Int) (first : Nat) (n Ba Br : Nat) (w0 w : World) (h : IsRope w0 (.pointer p) o) (hT : Lib.Utf8Tabs 0 1 w0) (hs : (txt o).size ≤ 1048576) (hx0 : Ext w0 w)
    (hf1 : first ≤ (marks (txt o).size (txt o).data.toList 0).length) (hf : StandsAt (marks (txt o).size (txt o).data.toList 0) first at_)
    (hBa : w0.heap[Ba]? = some (.cells #[.int .i64 at_] 3 (0, 0))) (hBr : w0.heap[Br]? = some (.cells #[.pointer p] 25 (0, 0))) :
    SeqStopsK Fence.wide n Tryd.prog 57 #[.pointer (some ⟨Ba, 0, none⟩), .pointer (some ⟨Br, 0, none⟩)] (fun x : Nat × Nat => #[Value.int .i64 (x.1 : Nat), Value.int .i32 (x.2 : Nat)]) (Below w0.heap.size)
      (fun ys => ys = itemsOf (marks (txt o).size (txt o).data.toList 0) first) (fun pre => pre <+: itemsOf (marks (txt o).size (txt o).data.toList 0) first) (itemsOf (marks (txt o).size (txt o).data.toList 0) first).length w := by
  intro l J Jx W hW hJ hJx hY h0
  have hl := len_eq (txt o)
  have hall : ∀ f, Fence.wide.fn f := fun _ => trivial
  have hdd : ∀ k : Nat, (Fence.wide.depth.isSome = true → 1 ≤ k) := fun k h => by cases h
  have hmark := runeAt_mark (txt o)
  have hfar := runeAt_end (txt o)
  have hnext := marks_next (txt o).size (txt o).data.toList 0
  have hma := marks_all (txt o).size (txt o).data.toList 0
  have hR : ∀ W2 q, Ext w0 W2 → CallsIn Fence.wide (n - 1) Tryd.prog 43 #[.pointer p, .int .i64 q] W2 _ := fun W2 q hx2 => callsIn_wide.2 (c_Rune (.pointer p) o q W2 (h.mono hx2) (tabs_mono hx2 hT) hs)
  generalize marks (txt o).size (txt o).data.toList 0 = M at *
  have HR := Lib.hid hR
  have HM := Lib.hid hmark
  have HFAR := Lib.hid hfar
  have HNX := Lib.hid hnext
  have HJ := Lib.hid hJ
  have HY := Lib.hid hY
  have HF := Lib.hid hf
  have H0 := Lib.hid h0
  have hxW : Ext w0 W := hx0.trans hW
  have ca := cell_blk (hxW.blk hBa)
  have HW := Lib.hid hxW
  clear hR hmark hfar hnext hJ hJx hY hf h0 hW
  refine callsIn_of_wp Tryd.func57 rfl (hall _) ?_ rfl
  simp only [Tryd.ntmps57, List.size_toArray, List.length_cons, List.length_nil, Nat.reduceAdd, Nat.reduceSub, Array.replicate_succ, Array.replicate_zero, List.push_toArray, List.append_toArray, List.nil_append, List.cons_append]
  gi_wp2
  gi_loopw [4, 5, 6] (fun x _ _ wr => ∃ (j : Nat) (q : Int), x = .int .i64 q ∧ first ≤ j ∧ j ≤ M.length ∧ Hid (StandsAt M j q) ∧ Hid (J ((itemsOf M first).take (j - first)) wr) ∧ Ext w0 wr) (fun x _ _ _ => (txt o).size + 1 - (intOf x).toNat)
  case atStart => exact ⟨first, at_, rfl, Nat.le_refl _, hf1, HF.out, by unfold Hid; rw [Nat.sub_self]; exact H0.out, HW.out⟩
  case round =>
    obtain ⟨j, q, rfl, h1, h2, hst, hj, hxr⟩ := hrel
    have cr := cell_blk (hxr.blk hBr)
    by_cases hlt : j < M.length
    · have hq : q = (M[j].2.1 : Nat) := hst.out.1 hlt
      obtain ⟨a0, a1, a2⟩ := hma M[j] (List.getElem_mem hlt)
      have hrune := HM.out j hlt
      have hstep := items_step M first j h1 hlt
      have hpre : ((itemsOf M first).take (j - first)).length < (itemsOf M first).length := by
        have hl2 : (itemsOf M first).length = M.length - first := by simp [itemsOf]
        rw [List.length_take]
        omega
      have hnx := HNX.out j (by omega) hlt
      obtain ⟨x1, hx1⟩ : ∃ x1, M[j].1 = x1 := ⟨_, rfl⟩
      obtain ⟨x2, hx2⟩ : ∃ x2, M[j].2.1 = x2 := ⟨_, rfl⟩
      obtain ⟨x3, hx3⟩ : ∃ x3, M[j].2.2 = x3 := ⟨_, rfl⟩
      rw [hx1, hx2, hx3] at hrune
      rw [hx1, hx2] at hstep
      rw [hx2] at hq a1
      rw [hx3] at a1 a2 hnx
      have HRU := Lib.hid hrune
      have HSTEP := Lib.hid hstep
      have HNEXT := Lib.hid hnx
      have hn0 : ¬ (((x3 - x2 : Nat) : Int) = 0) := by omega
      have hn1 : (((x3 - x2 : Nat) : Int) == 0) = false := beq_false_of_ne hn0
      subst hq
      have hk := HR.out wr (x2 : Nat) hxr
      rw [HRU.out] at hk
      have HK := Lib.hid hk
      clear hx1 hx2 hx3 hrune hstep hnx hk a0 hst
      gi_wp2_with fail
      refine ⟨hdd _, ?_⟩
      refine HK.out.mono ?_
      rintro e w1 ⟨rfl, hy1⟩
      obtain ⟨fn, tmps, assign, body, hy, hRR⟩ := HY.out _ (x2, x1) w1 (HJ.out _ wr w1 none hj.out (grown_ext hy1) (fun _ e => by cases e)) hpre
      dsimp only at hy
      gi_wp2_with fail
      refine ⟨hdd _, ?_⟩
      refine hRR.mono ?_
      clear hRR
      rintro e W2 (⟨rfl, hJ2, hb2⟩ | ⟨rfl, hJx2⟩)
      · have hx2 : Ext w0 W2 := Below.trans (hxr.trans hy1) hb2
        rw [← HSTEP.out] at hJ2
        have HJ2 := Lib.hid hJ2
        have hval : ((x2 : Nat) : Int) + ((x3 - x2 : Nat) : Int) = (x3 : Nat) := by omega
        clear hJ2 hb2 cr
        gi_wp2_with fail
        go_roundw
        case rel =>
          refine ⟨j + 1, x3, by first | rfl | (rw [hval]), by omega, by omega, ⟨fun h => ?_, fun h => ?_⟩, HJ2, hx2⟩
          · have := HNEXT.out.1 h
            rw [this]
          · have := HNEXT.out.2 h
            exact HFAR.out _ (by rw [this]; omega)
        case measure => simp [intOf]; omega
      · have hpx : (itemsOf M first).take (j - first) ++ [(x2, x1)] <+: itemsOf M first := by
          rw [← HSTEP.out]
          exact List.take_prefix _ _
        gi_wp2_with fail
        refine bodyPost_ret (results_none rfl _ _ _) rfl ?_
        exact ⟨⟨_, rfl⟩, .inr ⟨_, hpx, hJx2⟩⟩
    · have hjl : j = M.length := by omega
      have hr0 := hst.out.2 hjl
      have hk := HR.out wr q hxr
      rw [hr0] at hk
      have HK := Lib.hid hk
      have hall2 : (itemsOf M first).take (j - first) = itemsOf M first := by
        apply List.take_of_length_le
        simp [itemsOf]
        omega
      have HALL := Lib.hid hall2
      clear hr0 hk hall2 hjl hst
      gi_wp2_with fail
      refine ⟨hdd _, ?_⟩
      refine HK.out.mono ?_
      rintro e w1 ⟨rfl, hy1⟩
      have hJ1 := HJ.out _ wr w1 none hj.out (grown_ext hy1) (fun _ e => by cases e)
      rw [HALL.out] at hJ1
      have HJ1 := Lib.hid hJ1
      clear hJ1
      gi_wp2_with fail
      refine bodyPost_ret (results_none rfl _ _ _) rfl ?_
      exact ⟨⟨_, rfl⟩, .inl ⟨_, rfl, HJ1.out⟩⟩
end Go.Proofs.YtohpekbooapcjaaDoor
