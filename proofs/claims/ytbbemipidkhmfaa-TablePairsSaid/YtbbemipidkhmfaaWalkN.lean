/-
  Bytes read.
-/
import Derived.Laws.BitsLemmas
import Derived.Lib.EndianBits
import Derived.Maps.AppendAt
import Derived.Test.YtbbemipidkhmfaaWalkM
namespace Go.Proofs.Ytbbemipidkhmfaa
open Go.RowKit Go.Maps Go.Shelf

/-- Bytes in memory. -/
def ByRow (w : World) (v : Value) (l : List Int) : Prop :=
  ∃ p cap, v = .slice p l.length cap ∧ l.length ≤ cap ∧ (∀ x ∈ l, 0 ≤ x ∧ x ≤ 255) ∧ (l ≠ [] → ∃ b off, p = some ⟨b, off, none⟩ ∧ ∀ i (h : i < l.length), w.cell? ⟨b, off + i, none⟩ = some (.int .u8 l[i]))
theorem ByRow.mono {w w' : World} {v : Value} {l : List Int} (hx : Ext w w') (h : ByRow w v l) : ByRow w' v l := by
  obtain ⟨p, cap, rfl, hcap, hby, h2⟩ := h
  refine ⟨p, cap, rfl, hcap, hby, fun hne => ?_⟩
  obtain ⟨b, off, rfl, hc⟩ := h2 hne
  exact ⟨b, off, rfl, fun i hi => hx.cell (hc i hi)⟩
theorem ByRow.at {w : World} {p : Option Addr} {n cap : Nat} {l : List Int} (h : ByRow w (.slice p n cap) l) (hl : l ≠ []) : ∃ b off, p = some ⟨b, off, none⟩ ∧ ∀ i (h : i < l.length), w.cell? ⟨b, off + i, none⟩ = some (.int .u8 l[i]) := by
  obtain ⟨p', cap', e, _, _, h2⟩ := h
  obtain ⟨b, off, e2, hc⟩ := h2 hl
  cases e
  exact ⟨b, off, e2, hc⟩
theorem ByRow.of_own {w : World} {n₀ : Nat} {v : Value} {l : List Int} (h : w.ownsRow n₀ 5 1 v l.length (byV l)) (hb : ∀ x ∈ l, 0 ≤ x ∧ x ≤ 255) : ByRow w v l := by
  by_cases hl : l = []
  · subst hl
    rcases h.2 with ⟨rfl, _⟩ | ⟨g, cap, cur, rfl, _⟩
    · exact ⟨none, 0, rfl, Nat.zero_le _, hb, fun h => absurd rfl h⟩
    · exact ⟨_, cap, rfl, Nat.zero_le _, hb, fun h => absurd rfl h⟩
  · have hpos : 0 < l.length := List.length_pos_iff.2 hl
    have hcap : ∀ {g cap}, v = .slice (some ⟨g, 0, none⟩) l.length cap → l.length ≤ cap := by
      intro g cap e
      rcases h.2 with ⟨e2, h0⟩ | ⟨g', cap', cur, e2, _, _, h1, _⟩
      · omega
      · rw [e] at e2; cases e2; exact h1
    obtain ⟨g, cap, rfl⟩ := ownsRow_pos h hpos
    refine ⟨_, cap, rfl, hcap rfl, hb, fun _ => ⟨g, 0, rfl, fun i hi => ?_⟩⟩
    rw [Nat.zero_add]
    exact (h.cellAt i (by omega)).trans (by simp [byV, hi])
theorem ByRow.tail {w : World} {x : Int} {t : List Int} {b off cap : Nat} (h : ByRow w (.slice (some ⟨b, off, none⟩) (t.length + 1) cap) (x :: t)) {p : Option Addr} (hp : t ≠ [] → p = some ⟨b, off + 1, none⟩) : ByRow w (.slice p t.length (cap - 1)) t := by
  obtain ⟨p', cap', e, hcap, hby, h2⟩ := h
  cases e
  refine ⟨p, cap - 1, rfl, by simp at hcap; omega, fun y hy => hby y (by simp [hy]), fun hne => ?_⟩
  obtain ⟨b', off', e, hc⟩ := h2 (by simp)
  cases e
  refine ⟨b, off + 1, hp hne, fun i hi => ?_⟩
  have := hc (i + 1) (by simp; omega)
  simp only [List.getElem_cons_succ] at this
  rw [show off + 1 + i = off + (i + 1) from by omega]
  exact this

set_option maxRecDepth 100000 in
set_option maxHeartbeats 4000000 in
theorem c_bEqual (v1 v2 : Value) (l1 l2 : List Int) (bb : Bool) (w : World) (h1 : ByRow w v1 l1) (h2 : ByRow w v2 l2) (hb : bb = true ↔ l1 = l2) (hn : l1.length ≤ 100000000) :
    Calls Try.prog 57 #[v1, v2] w fun e w' => e = .returned (.bool bb) ∧ Ext w w' := by
  obtain ⟨p1, cap1, rfl⟩ : ∃ p cap, v1 = .slice p l1.length cap := by obtain ⟨p, cap, e, _⟩ := h1; exact ⟨p, cap, e⟩
  obtain ⟨p2, cap2, rfl⟩ : ∃ p cap, v2 = .slice p l2.length cap := by obtain ⟨p, cap, e, _⟩ := h2; exact ⟨p, cap, e⟩
  by_cases hl : l1.length = l2.length
  · have hlb : (((l1.length : Nat) : Int) != ((l2.length : Nat) : Int)) = false := by rw [hl]; simp
    have HL := Lib.hid hl
    clear hl
    go_enter Try.func57, Try.ntmps57
    go_wp2_with fail
    go_loopw [5, 13] (fun _ k w' => ∃ i : Nat, k = .int .i64 (i : Nat) ∧ i ≤ l1.length ∧ Hid (∀ j (a : j < l1.length) (b : j < l2.length), j < i → l1[j] = l2[j]) ∧ Ext w w') (fun _ k _ => l1.length + 1 - (intOf k).toNat)
    case atStart => exact ⟨0, rfl, by omega, Lib.hid (fun j _ _ h => by omega), Ext.refl w⟩
    case round =>
      obtain ⟨i, rfl, hi, hsame, hx⟩ := hrel
      by_cases hlt : i < l1.length
      · have hlt2 : i < l2.length := by have := HL.out; omega
        obtain ⟨b1, o1, rfl, hc1⟩ := (h1.mono hx).at (by intro e; rw [e] at hlt; simp at hlt)
        obtain ⟨b2, o2, rfl, hc2⟩ := (h2.mono hx).at (by intro e; rw [e] at hlt2; simp at hlt2)
        have a1 := hc1 i hlt
        have d1 := hc2 i hlt2
        obtain ⟨x, hxe⟩ : ∃ x, l1[i] = x := ⟨_, rfl⟩
        obtain ⟨y, hye⟩ : ∃ y, l2[i] = y := ⟨_, rfl⟩
        rw [hxe] at a1
        rw [hye] at d1
        have hd : decide (i < l1.length) = true := decide_eq_true hlt
        have i1 : ((i : Nat) : Int) < (l1.length : Nat) := by omega
        have i2 : ((i : Nat) : Int) < (l2.length : Nat) := by omega
        have HXE := Lib.hid hxe
        have HYE := Lib.hid hye
        have k1 : ∀ w', EOn (fun _ => True) wr w' → w'.cell? ⟨b1, o1 + i, none⟩ = _ := fun w' hx => hx.cell trivial a1
        have k4 : ∀ w', EOn (fun _ => True) wr w' → w'.cell? ⟨b2, o2 + i, none⟩ = _ := fun w' hx => hx.cell trivial d1
        clear hxe hye hc1 hc2 a1 d1
        go_wp2_with fail
        refine wp_lex (fun _ => True) [true, true, true, true, true, true, true, true, true] (by kernel_rfl) (by kernel_rfl) ?_
        repeat first
          | refine wpG_move (by rfl) (by simp only [Act.eval, Array.getD_eq_getD_getElem?, List.getElem?_toArray, List.getElem?_cons_succ, List.getElem?_cons_zero, Option.getD_some]; try rfl) (by simp only [Act.put, List.setIfInBounds_toArray, List.set_cons_succ, List.set_cons_zero]; rfl) ?_
          | refine wpG_assign (by rfl) (by simp only [Act.eval, Array.getD_eq_getD_getElem?, List.getElem?_toArray, List.getElem?_cons_succ, List.getElem?_cons_zero, Option.getD_some]; try rfl) (by simp only [Act.put, List.setIfInBounds_toArray, List.set_cons_succ, List.set_cons_zero]; rfl) ?_
          | refine wpG_val (by rfl) (fun w' hx => (by go_simp; first | (go_bits; first | exact rfl | exact ⟨by omega, rfl⟩) | exact rfl | exact (if_neg (by omega)).trans rfl | exact ⟨by omega, rfl⟩)) (by simp only [Act.put, List.setIfInBounds_toArray, List.set_cons_succ, List.set_cons_zero]; rfl) ?_
          | refine wpG_no (by rfl) (by simp only [Act.put, List.setIfInBounds_toArray, List.set_cons_succ, List.set_cons_zero]; rfl) ?_
        refine wpG_end (fun w6 hx6 => wpList_nil (gQ_normal ?_))
        obtain ⟨nb, hnb⟩ : ∃ nb, (x != y) = nb := ⟨_, rfl⟩
        rw [hnb]
        have HNB := Lib.hid hnb
        clear hnb
        rcases Bool.eq_false_or_eq_true nb with rfl | rfl
        · have hbf : bb = false := by
            cases bb
            · rfl
            · exfalso
              have e := hb.1 rfl
              subst e
              have e2 : x = y := by rw [← HXE.out, ← HYE.out]
              have := HNB.out
              simp [e2] at this
          have HBF := Lib.hid hbf
          clear hbf
          go_wp2_with fail
          go_ret
          exact ⟨by rw [HBF.out]; rfl, Ext.trans hx hx6⟩
        · go_wp2_with fail
          refine ⟨⟨i + 1, by simp, by omega, Lib.hid (fun j a b h => ?_), Ext.trans hx hx6⟩, by simp [intOf]; omega⟩
          rcases Nat.lt_succ_iff_lt_or_eq.1 h with h | h
          · exact hsame.out j a b h
          · subst h
            rw [HXE.out, HYE.out]
            have := HNB.out
            simpa using this
      · have hbt : bb = true := hb.2 (List.ext_getElem HL.out fun j a b => hsame.out j a b (by omega))
        have HBT := Lib.hid hbt
        have hd : decide (i < l1.length) = false := decide_eq_false hlt
        clear hbt
        go_wp2_with fail
        go_ret
        exact ⟨by rw [HBT.out]; rfl, hx⟩
  · have hlb : (((l1.length : Nat) : Int) != ((l2.length : Nat) : Int)) = true := bne_iff_ne.2 (by omega)
    have hbf : bb = false := by cases bb; rfl; exact absurd (congrArg List.length (hb.1 rfl)) hl
    subst hbf
    go_enter Try.func57, Try.ntmps57
    go_wp2_with fail
    go_ret
    exact ⟨rfl, Ext.refl w⟩

/-- A reader: what it has still to read; whether it could not. -/
def RdSt (w0 W : World) (RB : Nat) (bs : List Int) (bad : Bool) : Prop :=
  w0.heap.size ≤ RB ∧ Ext w0 W ∧ ∃ v, W.heap[RB]? = some (.cells #[v, .bool bad] 93) ∧ ByRow w0 v bs
set_option maxRecDepth 100000 in
set_option maxHeartbeats 4000000 in
theorem c_byte (w0 W : World) (RB : Nat) (bs : List Int) (bad : Bool) (h : RdSt w0 W RB bs bad) :
    Calls Try.prog 55 #[.pointer (some ⟨RB, 0, none⟩)] W fun e W' => e = .returned (.int .i64 (bs.headD 0)) ∧ RdSt w0 W' RB bs.tail (bad || bs.isEmpty) ∧ W.grownBy W' (some RB) := by
  obtain ⟨h0, hx, v, hb, hrow⟩ := h
  have k0 := cell_blk hb 0
  have k1 := cell_blk hb 1
  have f0 := frz_blk hb 0
  have f1 := frz_blk hb 1
  simp only [List.getElem?_toArray, List.getElem?_cons_succ, List.getElem?_cons_zero] at k0 k1
  cases bs with
  | nil =>
    obtain ⟨p, cap, rfl⟩ : ∃ p cap, v = .slice p 0 cap := by obtain ⟨p, cap, e, _⟩ := hrow; exact ⟨p, cap, e⟩
    have s1 : (W.setCell ⟨RB, 1, none⟩ (.bool true)).heap[RB]? = some (.cells #[.slice p 0 cap, .bool true] 93) := set_blk hb 1 (.bool true)
    go_enter Try.func55, Try.ntmps55
    go_wp2_with fail
    go_ret
    exact ⟨rfl, ⟨h0, hx.setCell (p := ⟨RB, 1, none⟩) h0 _, _, by simpa using s1, by simpa using hrow⟩, grownBy_setAt W ⟨RB, 1, none⟩ _⟩
  | cons x t =>
    obtain ⟨p, cap, rfl⟩ : ∃ p cap, v = .slice p (t.length + 1) cap := by obtain ⟨p, cap, e, _⟩ := hrow; exact ⟨p, cap, by simpa using e⟩
    obtain ⟨b, off, rfl, hc⟩ := hrow.at (by simp)
    have c1 := hx.cell (hc 0 (by simp))
    rw [Nat.add_zero] at c1
    simp only [List.getElem_cons_zero] at c1
    have g0 : ((t.length : Nat) : Int) + 1 ≠ 0 := by omega
    have g1 : (((t.length : Nat) : Int) + 1 == 0) = false := beq_false_of_ne g0
    obtain ⟨hx0, hx1⟩ := (by obtain ⟨_, _, _, _, hby, _⟩ := hrow; exact hby x (by simp) : 0 ≤ x ∧ x ≤ 255)
    have hcap : t.length + 1 ≤ cap := by obtain ⟨_, _, e, h1, _⟩ := hrow; cases e; simpa using h1
    by_cases hone : cap = 1
    · subst hone
      have ht : t = [] := List.length_eq_zero_iff.1 (by omega)
      subst ht
      go_enter Try.func55, Try.ntmps55
      go_wp2_with fail
      go_ret
      refine ⟨rfl, ⟨h0, hx.setCell (p := ⟨RB, 0, none⟩) h0 _, .slice (some ⟨b, off, none⟩) 0 0, ?_, hrow.tail fun hne => ?_⟩, grownBy_setAt W ⟨RB, 0, none⟩ _⟩
      · have s1 : (W.setCell ⟨RB, 0, none⟩ (.slice (some ⟨b, off, none⟩) 0 0)).heap[RB]? = some (.cells #[.slice (some ⟨b, off, none⟩) 0 0, .bool bad] 93) := set_blk hb 0 _
        simpa using s1
      · have := List.length_pos_iff.2 hne
        first | rfl | (exfalso; omega)
    · go_enter Try.func55, Try.ntmps55
      go_wp2_with fail
      go_ret
      refine ⟨rfl, ⟨h0, hx.setCell (p := ⟨RB, 0, none⟩) h0 _, .slice (some ⟨b, off + 1, none⟩) t.length (cap - 1), ?_, hrow.tail fun hne => ?_⟩, grownBy_setAt W ⟨RB, 0, none⟩ _⟩
      · have s1 : (W.setCell ⟨RB, 0, none⟩ (.slice (some ⟨b, off + 1, none⟩) t.length (cap - 1))).heap[RB]? = some (.cells #[.slice (some ⟨b, off + 1, none⟩) t.length (cap - 1), .bool bad] 93) := set_blk hb 0 _
        simpa using s1
      · have := List.length_pos_iff.2 hne
        first | rfl | (exfalso; omega)
end Go.Proofs.Ytbbemipidkhmfaa
