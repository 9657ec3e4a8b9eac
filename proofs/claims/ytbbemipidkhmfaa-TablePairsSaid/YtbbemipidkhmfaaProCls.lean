/-
  The program's classes of a text.
-/
import Derived.Test.YtbbemipidkhmfaaRefCls
import Derived.Test.YtbbemipidkhmfaaWalkF
import Derived.RangeFuncBox
import Derived.WalkSmall
import Derived.Lib.OthersKept
namespace Go.Proofs.Ytbbemipidkhmfaa
open Go.RowKit Go.Maps

set_option maxRecDepth 100000 in
set_option maxHeartbeats 8000000 in
theorem c_Classes {T : Nat} {rest : Int} {f : Int → Int} {U : List (List Int)} {ix : List Nat} {ob oc ub uc : Nat} (s : ByteArray) (hm : s.size ≤ 1000000000) (w : World) (h : Tab w T rest f U ix ob oc ub uc) :
    Calls Try.prog 36 #[.pointer (some ⟨T, 0, none⟩), .string s] w fun e w' => ∃ v, e = .returned v ∧ w'.ownsRow w.heap.size 3 1 v (runesOf s).length (nV .i64 ((runesOf s).map f)) ∧ Ext w w' := by
  obtain ⟨i0, hi0, hz0, hz1, hz2⟩ := info_parts infoIp
  have hlen := runesOf_length s
  go_enter Try.func36, Try.ntmps36
  go_wp2_with fail
  go_loopw [5, 7] (fun lv _ W => ∃ (pos : Nat) (rs : List Int), W.heap[w.heap.size]? = some (.stringIter s pos) ∧ pos ≤ s.size ∧ rs.length ≤ pos ∧ Hid (rs ++ runesFrom s s.size pos = runesOf s) ∧ W.ownsRow (w.heap.size + 1) 3 1 lv rs.length (nV .i64 (rs.map f)) ∧ Ext w W) (fun _ _ W => s.size - W.iterPos w.heap.size)
  case atStart => exact ⟨0, [], World.iter_heap w s 0, by omega, by simp, Lib.hid rfl, World.ownsRow_nil _ _ _ _, (Ext.refl w).iter s 0⟩
  case round =>
    obtain ⟨pos, rs, hit, hp, hrl, hrs, hrow, hx⟩ := hrel
    obtain ⟨po, capo, rfl⟩ := own_slice hrow
    have hpos := iterPos_of hit
    by_cases hlt : pos < s.size
    · have hnx : ∀ ty, (Instr.next (.pointer (some ⟨w.heap.size, 0, none⟩)) true ty).run Try.prog wr = _ := fun ty => Lib.run_next_any_at wr w.heap.size s pos ty hit hlt
      have hw := dec_wid s pos hlt
      have hmx := dec_max s pos
      have hst := hrs.out
      rw [runesFrom_step s pos hlt] at hst
      have HST := Lib.hid hst
      have hrow1 := ownsRow_iterAt hrow (Nat.lt_succ_self w.heap.size) s (pos + (Utf8.decode s pos).2)
      have hx1 : Ext w (wr.iterAt w.heap.size s (pos + (Utf8.decode s pos).2)) := Lib.below_iterAt hx (Nat.le_refl _) s _
      have hit1 := Lib.iterAt_heap wr w.heap.size s pos (pos + (Utf8.decode s pos).2) hit
      clear hst hrow
      go_wp2_with fail
      obtain ⟨⟨r, n⟩, hrn⟩ : ∃ x, Utf8.decode s pos = x := ⟨_, rfl⟩
      rw [hrn] at hrow1 hx1 hit1 HST hw hmx ⊢
      simp only at hw hmx
      have HPOS := Lib.hid hpos
      clear hrn hit hx hnx hpos
      refine (c_Get (r : Nat) _ (h.ext hx1)).mono ?_
      rintro e w2 ⟨rfl, hx2⟩
      have hgo : getOf rest f (r : Nat) = f (r : Nat) := by unfold getOf; rw [if_pos (by omega)]
      rw [hgo]
      clear hgo
      obtain ⟨c, hc⟩ : ∃ c, f (r : Nat) = c := ⟨_, rfl⟩
      rw [hc]
      have HC := Lib.hid hc
      have hrowA := ownsRow_ext (ownsRow_ext hrow1 hx2) ((Ext.refl w2).alloc (.cells #[.int .i64 c] 3))
      have hxA : Ext w (w2.alloc (.cells #[.int .i64 c] 3)) := (Ext.trans hx1 hx2).alloc _
      have hitA := (hx2.alloc (.cells #[.int .i64 c] 3)).blk hit1
      have hszA := hxA.sz
      have hszB : w.heap.size + 1 ≤ (w2.alloc (.cells #[.int .i64 c] 3)).heap.size := by have := blk_lt hitA; omega
      clear hc hrow1 hit1 hx1 hx2
      go_wp2_with (at_builtin; refine wpList_append_own _ rfl (.tmp 15) (.tmp 19) 26 rfl (w.heap.size + 1) 3 i0 (.int .i64 0) 1 8 Try.underlying26 hi0 hz0 hz1 hz2 rfl (by decide) _ rs.length (nV .i64 (rs.map f)) rfl hrowA ⟨w2.heap.size, 0, none⟩ 1 1 [.int .i64 c] rfl rfl (cell1_new w2 _ _) (by intro u hu; simp at hu; rw [hu]; rfl) (by unfold maxLen; omega) (by omega) (by simpa using hszB) ?_; intro v9 w9 hown' hgrow _; have hx9 : Ext w w9 := Below.grown hxA hgrow hszA (fun k e => Nat.le_of_succ_le (hrowA.lt k e).1); have hit9 := (hgrow.block _ (blk_lt hitA) (fun e => by have := (hrowA.lt _ e.symm).1; omega)).trans hitA; clear hgrow hrowA hxA hszA hszB hitA)
      have e : nV .i64 ((rs ++ [(r : Int)]).map f) = nV .i64 (rs.map f) ++ [.int .i64 c] := by rw [List.map_append, nV_append, ← HC.out]; rfl
      rw [← e] at hown'
      clear e
      have hp9 := iterPos_of hit9
      go_roundw
      case rel => exact ⟨pos + n, rs ++ [(r : Int)], hit9, by omega, by simp; omega, Lib.hid (by rw [← HST.out]; simp), by simpa using hown', hx9⟩
      case measure => rw [hp9, HPOS.out]; omega
    · obtain rfl : pos = s.size := by omega
      have hnx : ∀ ty, (Instr.next (.pointer (some ⟨w.heap.size, 0, none⟩)) true ty).run Try.prog wr = _ := fun ty => Lib.run_next_end_at wr w.heap.size s s.size ty hit hlt
      have hend := hrs.out
      rw [runesFrom_end s _ _ (Nat.le_refl _), List.append_nil] at hend
      have HE := Lib.hid hend
      clear hend
      go_wp2_with fail
      go_ret
      exact ⟨_, rfl, by rw [← HE.out]; exact own_lower hrow (by omega), hx⟩
end Go.Proofs.Ytbbemipidkhmfaa
