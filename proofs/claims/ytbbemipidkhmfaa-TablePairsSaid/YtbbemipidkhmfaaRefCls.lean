/-
  The document's classes of a text.
-/
import Derived.Test.YtbbemipidkhmfaaRefRun
import Derived.Test.YtbbemipidkhmfaaRefE
namespace Go.Proofs.Ytbbemipidkhmfaa
open Go.RowKit Go.Maps

set_option maxRecDepth 100000 in
set_option maxHeartbeats 8000000 in
theorem c_RClasses {n₀ : Nat} {v : Value} {rest : Int} {L : List Rng} (s : ByteArray) (hm : s.size ≤ 1000000000) (w : World) (h : IsRef n₀ w v rest L) (hl : L.length ≤ 2000000) :
    Calls Try.prog 54 #[v, .string s] w fun e w' => ∃ v, e = .returned v ∧ w'.ownsRow w.heap.size 3 1 v (runesOf s).length (nV .i64 ((runesOf s).map (clsOf L rest))) ∧ Ext w w' := by
  obtain ⟨i0, hi0, hz0, hz1, hz2⟩ := info_parts infoIp
  have hv : ∃ Y, v = .pointer (some ⟨Y, 0, none⟩) := by obtain ⟨Y, _, e, _⟩ := h; exact ⟨Y, e⟩
  obtain ⟨Y, rfl⟩ := hv
  have hlen := runesOf_length s
  go_enter Try.func54, Try.ntmps54
  go_wp2_with fail
  refine (c_RRunes s hm w).mono ?_
  rintro e w1 ⟨v1, rfl, hrow, hx1⟩
  obtain ⟨ms, hms⟩ : ∃ ms, runesOf s = ms := ⟨_, rfl⟩
  rw [hms] at hlen hrow
  have HMS := Lib.hid hms
  clear hms
  obtain ⟨p, cap, rfl⟩ := own_slice hrow
  go_wp2_with fail
  go_loopw [6, 7] (fun ov kv W => ∃ (i : Nat), kv = .int .i64 (i : Nat) ∧ i ≤ ms.length ∧ W.ownsRow w1.heap.size 3 1 ov i (nV .i64 ((ms.take i).map (clsOf L rest))) ∧ Ext w1 W) (fun _ kv _ => ms.length + 1 - (intOf kv).toNat)
  case atStart => exact ⟨0, rfl, by omega, World.ownsRow_nil _ _ _ _, Ext.refl _⟩
  case round =>
    obtain ⟨i, rfl, hi, hout, hx⟩ := hrel
    obtain ⟨po, capo, rfl⟩ := own_slice hout
    by_cases hlt : i < ms.length
    · have hd : decide (i < ms.length) = true := decide_eq_true hlt
      have j1 : ((i : Nat) : Int) < (ms.length : Nat) := by omega
      obtain ⟨g, cap', e⟩ := ownsRow_pos hrow (by omega)
      cases e
      have hcell := (ownsRow_ext hrow hx).cellAt i (by omega)
      have hget : (nV .i32 ms)[i]? = some (.int .i32 ms[i]) := by simp [nV, hlt]
      rw [hget] at hcell
      have htk := List.take_succ_eq_append_getElem hlt
      obtain ⟨x, hxe⟩ : ∃ x, ms[i] = x := ⟨_, rfl⟩
      rw [hxe] at hcell htk
      have HTK := Lib.hid htk
      have hr := Lib.hid hrow
      clear hget htk hxe hrow
      go_wp2_with fail
      refine (c_RGet x wr ((h.ext hx1).ext hx) hl).mono ?_
      rintro e w2 ⟨rfl, hx2⟩
      have hout2 := ownsRow_ext hout hx2
      have hxx := Ext.trans hx hx2
      obtain ⟨c, hc⟩ : ∃ c, clsOf L rest x = c := ⟨_, rfl⟩
      rw [hc]
      have HC := Lib.hid hc
      clear hout hc hcell
      have hrowA := ownsRow_ext hout2 ((Ext.refl w2).alloc (.cells #[.int .i64 c] 3))
      have hxA := hxx.alloc (.cells #[.int .i64 c] 3)
      have hszA := hxA.sz
      clear hout2
      go_wp2_with (at_builtin; refine wpList_append_own _ rfl (.tmp 16) (.tmp 23) 26 rfl w1.heap.size 3 i0 (.int .i64 0) 1 8 (Try.underlying26) hi0 hz0 hz1 hz2 rfl (by decide) _ i (nV .i64 ((ms.take i).map (clsOf L rest))) rfl hrowA ⟨w2.heap.size, 0, none⟩ 1 1 [.int .i64 c] rfl rfl (cell1_new w2 _ _) (by intro u hu; simp at hu; rw [hu]; rfl) (by unfold maxLen; omega) (by omega) (by simpa using hszA) ?_; intro v9 w9 hown' hgrow _; have hx9 := Below.grown hxA hgrow hszA (fun k e => (hrowA.lt k e).1); clear hgrow hrowA hxA hszA)
      have e : nV .i64 ((ms.take (i + 1)).map (clsOf L rest)) = nV .i64 ((ms.take i).map (clsOf L rest)) ++ [.int .i64 c] := by rw [HTK.out, List.map_append, nV_append, ← HC.out]; rfl
      rw [← e] at hown'
      clear e
      exact ⟨⟨i + 1, by simp, by omega, hown', hx9⟩, by simp [intOf]; omega⟩
    · have hd : decide (i < ms.length) = false := decide_eq_false hlt
      obtain rfl : i = ms.length := by omega
      rw [List.take_length] at hout
      go_wp2_with fail
      go_ret
      exact ⟨_, rfl, by rw [HMS.out]; exact own_lower hout hx1.sz, Ext.trans hx1 hx⟩
end Go.Proofs.Ytbbemipidkhmfaa
