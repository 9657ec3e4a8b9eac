/-
  A number read.
-/
import Derived.Test.YtbbemipidkhmfaaWalkN
namespace Go.Proofs.Ytbbemipidkhmfaa
open Go.RowKit Go.Maps Go.Shelf

/-- The number's value, what is left, whether it could not be read. -/
def numGo : Nat → Nat → Int → List Int → Bool → Int × List Int × Bool
  | 0, _, _, bs, _ => (0, bs, true)
  | k + 1, i, n, bs, bad =>
    if bs.headD 0 < 128 then (n + bs.headD 0 % 128 * 128 ^ i, bs.tail, (bad || bs.isEmpty) || (bs.headD 0 == 0 && decide (0 < i)))
    else numGo k (i + 1) (n + bs.headD 0 % 128 * 128 ^ i) bs.tail (bad || bs.isEmpty)
theorem numGo_more (k i : Nat) (n : Int) (bs : List Int) (bad : Bool) (h : ¬ bs.headD 0 < 128) : numGo (k + 1) i n bs bad = numGo k (i + 1) (n + bs.headD 0 % 128 * 128 ^ i) bs.tail (bad || bs.isEmpty) := by rw [numGo, if_neg h]
def numR (bs : List Int) (bad : Bool) : Int × List Int × Bool := numGo 4 0 0 bs bad
theorem i64w (n : Int) (h₀ : 0 ≤ n) (h₁ : n < 2 ^ 62) : IntKind.i64.wrap n = n := by rw [IntKind.wrap_i64]; omega
theorem and127 (c : Int) (h0 : 0 ≤ c) (h1 : c ≤ 255) : bits .and .i64 c 127 = c % 128 := bits_mask .i64 62 (by decide) i64w 7 (by decide) c h0 (by omega)
theorem RdSt.byte {w0 W : World} {RB : Nat} {bs : List Int} {bad : Bool} (h : RdSt w0 W RB bs bad) : 0 ≤ bs.headD 0 ∧ bs.headD 0 ≤ 255 := by
  obtain ⟨_, _, _, _, _, _, _, _, hb, _⟩ := h
  cases bs with
  | nil => simp
  | cons x t => simpa using hb x (by simp)
set_option maxRecDepth 100000 in
set_option maxHeartbeats 4000000 in
theorem c_rnum (w0 W : World) (RB : Nat) (bs : List Int) (bad : Bool) (h : RdSt w0 W RB bs bad) :
    Calls Try.prog 56 #[.pointer (some ⟨RB, 0, none⟩)] W fun e W' => e = .returned (.int .i64 (numR bs bad).1) ∧ RdSt w0 W' RB (numR bs bad).2.1 (numR bs bad).2.2 ∧ W.grownBy W' (some RB) := by
  go_enter Try.func56, Try.ntmps56
  go_wp2_with fail
  go_loopw [3, 6] (fun x y W' => ∃ (i : Nat) (n : Int) (b : List Int) (ba : Bool), y = .int .i64 (i : Nat) ∧ x = .int .i64 n ∧ i ≤ 4 ∧ 0 ≤ n ∧ n < 128 ^ i ∧ Hid (numGo (4 - i) i n b ba = numR bs bad) ∧ RdSt w0 W' RB b ba ∧ W.grownBy W' (some RB)) (fun _ y _ => 4 - (intOf y).toNat)
  case atStart => exact ⟨0, 0, bs, bad, rfl, rfl, by omega, by omega, by decide, Lib.hid rfl, h, ⟨rfl, rfl, rfl, Nat.le_refl _, fun _ _ _ => rfl⟩⟩
  case round =>
    obtain ⟨i, n, b, ba, rfl, rfl, hi, hn0, hn1, hgo, hst, hg⟩ := hrel
    by_cases hi4 : i < 4
    · obtain ⟨hc0, hc1⟩ := hst.byte
      have hi4I : ((i : Nat) : Int) < 4 := by omega
      go_wp2_with fail
      refine (c_byte w0 wr RB b ba hst).mono ?_
      rintro e w1 ⟨rfl, hst1, hg1⟩
      obtain ⟨c, hc⟩ : ∃ c, b.headD 0 = c := ⟨_, rfl⟩
      rw [hc] at hc0 hc1 ⊢
      have HC := Lib.hid hc
      have ha := and127 c hc0 hc1
      clear hc
      obtain ⟨q0, q1, v1, q2, q3⟩ := id hst1
      have k1 := cell_blk q2 1
      have f1 := frz_blk q2 1
      simp only [List.getElem?_toArray, List.getElem?_cons_succ, List.getElem?_cons_zero] at k1
      obtain ⟨ba1, hba1⟩ : ∃ ba1, (ba || b.isEmpty) = ba1 := ⟨_, rfl⟩
      rw [hba1] at k1
      have HBA := Lib.hid hba1
      have Q2 := Lib.hid q2
      clear hba1 q2
      obtain rfl | rfl | rfl | rfl : i = 0 ∨ i = 1 ∨ i = 2 ∨ i = 3 := by omega
      · have ho : bits .or .i64 n (c % 128) = n + c % 128 := bits_join_low .i64 62 (by decide) i64w 0 n (c % 128) hn0 (by omega) (by omega) (by omega) (by omega) (by omega)
        by_cases hlt : c < 128
        · rcases Bool.eq_false_or_eq_true ba1 with rfl | rfl
          · have hzb : true = true := rfl
            have s1 : (w1.setCell ⟨RB, 1, none⟩ (.bool true)).heap[RB]? = some (.cells #[v1, .bool true] 93) := set_blk Q2.out 1 _
            go_wp2_with fail
            go_ret
            rw [← hgo.out]
            have e : numGo (4 - 0) 0 n b ba = (n + c % 128, b.tail, true) := by
              show numGo (3 + 1) 0 n b ba = _
              simp only [numGo]
              rw [HC.out, HBA.out, if_pos hlt]
              simp [hzb]
            rw [e]
            exact ⟨rfl, ⟨q0, q1.setCell (p := ⟨RB, 1, none⟩) q0 _, v1, s1, q3⟩, (hg.trans hg1).trans (grownBy_setAt w1 ⟨RB, 1, none⟩ _)⟩
          · by_cases hz : c = 0
            · have hzb : (c == 0) = true := by simp [hz]
              have HZ := Lib.hid hz
              clear hz
              have s1 : (w1.setCell ⟨RB, 1, none⟩ (.bool false)).heap[RB]? = some (.cells #[v1, .bool false] 93) := set_blk Q2.out 1 _
              go_wp2_with fail
              go_ret
              rw [← hgo.out]
              have e : numGo (4 - 0) 0 n b ba = (n + c % 128, b.tail, false) := by
                show numGo (3 + 1) 0 n b ba = _
                simp only [numGo]
                rw [HC.out, HBA.out, if_pos hlt]
                simp [hzb]
              rw [e]
              exact ⟨rfl, ⟨q0, q1.setCell (p := ⟨RB, 1, none⟩) q0 _, v1, s1, q3⟩, (hg.trans hg1).trans (grownBy_setAt w1 ⟨RB, 1, none⟩ _)⟩
            · have hzb : (c == 0) = false := by simp [hz]
              have s1 : (w1.setCell ⟨RB, 1, none⟩ (.bool false)).heap[RB]? = some (.cells #[v1, .bool false] 93) := set_blk Q2.out 1 _
              go_wp2_with fail
              go_ret
              rw [← hgo.out]
              have e : numGo (4 - 0) 0 n b ba = (n + c % 128, b.tail, false) := by
                show numGo (3 + 1) 0 n b ba = _
                simp only [numGo]
                rw [HC.out, HBA.out, if_pos hlt]
                simp [hzb]
              rw [e]
              exact ⟨rfl, ⟨q0, q1.setCell (p := ⟨RB, 1, none⟩) q0 _, v1, s1, q3⟩, (hg.trans hg1).trans (grownBy_setAt w1 ⟨RB, 1, none⟩ _)⟩
        · go_wp2_with fail
          rw [HBA.out] at hst1
          refine ⟨⟨0 + 1, n + c % 128, b.tail, ba1, by simp, rfl, by omega, by omega, by omega, Lib.hid ?_, hst1, hg.trans hg1⟩, by simp [intOf]⟩
          rw [← hgo.out]
          show _ = numGo (3 + 1) 0 n b ba
          rw [numGo_more 3 0 n b ba (by rw [HC.out]; omega), HC.out, HBA.out]
          simp only [Int.pow_succ, Int.pow_zero, Int.one_mul, Int.mul_one]
          first | done | rfl
      · have ho : bits .or .i64 n (c % 128 * 128) = n + c % 128 * 128 := bits_join_low .i64 62 (by decide) i64w 7 n (c % 128 * 128) hn0 (by omega) (by omega) (by omega) (by omega) (by omega)
        by_cases hlt : c < 128
        · rcases Bool.eq_false_or_eq_true ba1 with rfl | rfl
          · have hzb : true = true := rfl
            have s1 : (w1.setCell ⟨RB, 1, none⟩ (.bool true)).heap[RB]? = some (.cells #[v1, .bool true] 93) := set_blk Q2.out 1 _
            go_wp2_with fail
            go_ret
            rw [← hgo.out]
            have e : numGo (4 - 1) 1 n b ba = (n + c % 128 * 128, b.tail, true) := by
              show numGo (2 + 1) 1 n b ba = _
              simp only [numGo]
              rw [HC.out, HBA.out, if_pos hlt]
              simp [hzb]
            rw [e]
            exact ⟨rfl, ⟨q0, q1.setCell (p := ⟨RB, 1, none⟩) q0 _, v1, s1, q3⟩, (hg.trans hg1).trans (grownBy_setAt w1 ⟨RB, 1, none⟩ _)⟩
          · by_cases hz : c = 0
            · have hzb : (c == 0) = true := by simp [hz]
              have HZ := Lib.hid hz
              clear hz
              have s1 : (w1.setCell ⟨RB, 1, none⟩ (.bool true)).heap[RB]? = some (.cells #[v1, .bool true] 93) := set_blk Q2.out 1 _
              go_wp2_with fail
              go_ret
              rw [← hgo.out]
              have e : numGo (4 - 1) 1 n b ba = (n + c % 128 * 128, b.tail, true) := by
                show numGo (2 + 1) 1 n b ba = _
                simp only [numGo]
                rw [HC.out, HBA.out, if_pos hlt]
                simp [hzb]
              rw [e]
              exact ⟨rfl, ⟨q0, q1.setCell (p := ⟨RB, 1, none⟩) q0 _, v1, s1, q3⟩, (hg.trans hg1).trans (grownBy_setAt w1 ⟨RB, 1, none⟩ _)⟩
            · have hzb : (c == 0) = false := by simp [hz]
              have s1 : (w1.setCell ⟨RB, 1, none⟩ (.bool false)).heap[RB]? = some (.cells #[v1, .bool false] 93) := set_blk Q2.out 1 _
              go_wp2_with fail
              go_ret
              rw [← hgo.out]
              have e : numGo (4 - 1) 1 n b ba = (n + c % 128 * 128, b.tail, false) := by
                show numGo (2 + 1) 1 n b ba = _
                simp only [numGo]
                rw [HC.out, HBA.out, if_pos hlt]
                simp [hzb]
              rw [e]
              exact ⟨rfl, ⟨q0, q1.setCell (p := ⟨RB, 1, none⟩) q0 _, v1, s1, q3⟩, (hg.trans hg1).trans (grownBy_setAt w1 ⟨RB, 1, none⟩ _)⟩
        · go_wp2_with fail
          rw [HBA.out] at hst1
          refine ⟨⟨1 + 1, n + c % 128 * 128, b.tail, ba1, by simp, rfl, by omega, by omega, by omega, Lib.hid ?_, hst1, hg.trans hg1⟩, by simp [intOf]⟩
          rw [← hgo.out]
          show _ = numGo (2 + 1) 1 n b ba
          rw [numGo_more 2 1 n b ba (by rw [HC.out]; omega), HC.out, HBA.out]
          simp only [Int.pow_succ, Int.pow_zero, Int.one_mul, Int.mul_one]
          first | done | rfl
      · have ho : bits .or .i64 n (c % 128 * 16384) = n + c % 128 * 16384 := bits_join_low .i64 62 (by decide) i64w 14 n (c % 128 * 16384) hn0 (by omega) (by omega) (by omega) (by omega) (by omega)
        by_cases hlt : c < 128
        · rcases Bool.eq_false_or_eq_true ba1 with rfl | rfl
          · have hzb : true = true := rfl
            have s1 : (w1.setCell ⟨RB, 1, none⟩ (.bool true)).heap[RB]? = some (.cells #[v1, .bool true] 93) := set_blk Q2.out 1 _
            go_wp2_with fail
            go_ret
            rw [← hgo.out]
            have e : numGo (4 - 2) 2 n b ba = (n + c % 128 * 16384, b.tail, true) := by
              show numGo (1 + 1) 2 n b ba = _
              simp only [numGo]
              rw [HC.out, HBA.out, if_pos hlt]
              simp [hzb]
            rw [e]
            exact ⟨rfl, ⟨q0, q1.setCell (p := ⟨RB, 1, none⟩) q0 _, v1, s1, q3⟩, (hg.trans hg1).trans (grownBy_setAt w1 ⟨RB, 1, none⟩ _)⟩
          · by_cases hz : c = 0
            · have hzb : (c == 0) = true := by simp [hz]
              have HZ := Lib.hid hz
              clear hz
              have s1 : (w1.setCell ⟨RB, 1, none⟩ (.bool true)).heap[RB]? = some (.cells #[v1, .bool true] 93) := set_blk Q2.out 1 _
              go_wp2_with fail
              go_ret
              rw [← hgo.out]
              have e : numGo (4 - 2) 2 n b ba = (n + c % 128 * 16384, b.tail, true) := by
                show numGo (1 + 1) 2 n b ba = _
                simp only [numGo]
                rw [HC.out, HBA.out, if_pos hlt]
                simp [hzb]
              rw [e]
              exact ⟨rfl, ⟨q0, q1.setCell (p := ⟨RB, 1, none⟩) q0 _, v1, s1, q3⟩, (hg.trans hg1).trans (grownBy_setAt w1 ⟨RB, 1, none⟩ _)⟩
            · have hzb : (c == 0) = false := by simp [hz]
              have s1 : (w1.setCell ⟨RB, 1, none⟩ (.bool false)).heap[RB]? = some (.cells #[v1, .bool false] 93) := set_blk Q2.out 1 _
              go_wp2_with fail
              go_ret
              rw [← hgo.out]
              have e : numGo (4 - 2) 2 n b ba = (n + c % 128 * 16384, b.tail, false) := by
                show numGo (1 + 1) 2 n b ba = _
                simp only [numGo]
                rw [HC.out, HBA.out, if_pos hlt]
                simp [hzb]
              rw [e]
              exact ⟨rfl, ⟨q0, q1.setCell (p := ⟨RB, 1, none⟩) q0 _, v1, s1, q3⟩, (hg.trans hg1).trans (grownBy_setAt w1 ⟨RB, 1, none⟩ _)⟩
        · go_wp2_with fail
          rw [HBA.out] at hst1
          refine ⟨⟨2 + 1, n + c % 128 * 16384, b.tail, ba1, by simp, rfl, by omega, by omega, by omega, Lib.hid ?_, hst1, hg.trans hg1⟩, by simp [intOf]⟩
          rw [← hgo.out]
          show _ = numGo (1 + 1) 2 n b ba
          rw [numGo_more 1 2 n b ba (by rw [HC.out]; omega), HC.out, HBA.out]
          simp only [Int.pow_succ, Int.pow_zero, Int.one_mul, Int.mul_one]
          first | done | rfl
      · have ho : bits .or .i64 n (c % 128 * 2097152) = n + c % 128 * 2097152 := bits_join_low .i64 62 (by decide) i64w 21 n (c % 128 * 2097152) hn0 (by omega) (by omega) (by omega) (by omega) (by omega)
        by_cases hlt : c < 128
        · rcases Bool.eq_false_or_eq_true ba1 with rfl | rfl
          · have hzb : true = true := rfl
            have s1 : (w1.setCell ⟨RB, 1, none⟩ (.bool true)).heap[RB]? = some (.cells #[v1, .bool true] 93) := set_blk Q2.out 1 _
            go_wp2_with fail
            go_ret
            rw [← hgo.out]
            have e : numGo (4 - 3) 3 n b ba = (n + c % 128 * 2097152, b.tail, true) := by
              show numGo (0 + 1) 3 n b ba = _
              simp only [numGo]
              rw [HC.out, HBA.out, if_pos hlt]
              simp [hzb]
            rw [e]
            exact ⟨rfl, ⟨q0, q1.setCell (p := ⟨RB, 1, none⟩) q0 _, v1, s1, q3⟩, (hg.trans hg1).trans (grownBy_setAt w1 ⟨RB, 1, none⟩ _)⟩
          · by_cases hz : c = 0
            · have hzb : (c == 0) = true := by simp [hz]
              have HZ := Lib.hid hz
              clear hz
              have s1 : (w1.setCell ⟨RB, 1, none⟩ (.bool true)).heap[RB]? = some (.cells #[v1, .bool true] 93) := set_blk Q2.out 1 _
              go_wp2_with fail
              go_ret
              rw [← hgo.out]
              have e : numGo (4 - 3) 3 n b ba = (n + c % 128 * 2097152, b.tail, true) := by
                show numGo (0 + 1) 3 n b ba = _
                simp only [numGo]
                rw [HC.out, HBA.out, if_pos hlt]
                simp [hzb]
              rw [e]
              exact ⟨rfl, ⟨q0, q1.setCell (p := ⟨RB, 1, none⟩) q0 _, v1, s1, q3⟩, (hg.trans hg1).trans (grownBy_setAt w1 ⟨RB, 1, none⟩ _)⟩
            · have hzb : (c == 0) = false := by simp [hz]
              have s1 : (w1.setCell ⟨RB, 1, none⟩ (.bool false)).heap[RB]? = some (.cells #[v1, .bool false] 93) := set_blk Q2.out 1 _
              go_wp2_with fail
              go_ret
              rw [← hgo.out]
              have e : numGo (4 - 3) 3 n b ba = (n + c % 128 * 2097152, b.tail, false) := by
                show numGo (0 + 1) 3 n b ba = _
                simp only [numGo]
                rw [HC.out, HBA.out, if_pos hlt]
                simp [hzb]
              rw [e]
              exact ⟨rfl, ⟨q0, q1.setCell (p := ⟨RB, 1, none⟩) q0 _, v1, s1, q3⟩, (hg.trans hg1).trans (grownBy_setAt w1 ⟨RB, 1, none⟩ _)⟩
        · go_wp2_with fail
          rw [HBA.out] at hst1
          refine ⟨⟨3 + 1, n + c % 128 * 2097152, b.tail, ba1, by simp, rfl, by omega, by omega, by omega, Lib.hid ?_, hst1, hg.trans hg1⟩, by simp [intOf]⟩
          rw [← hgo.out]
          show _ = numGo (0 + 1) 3 n b ba
          rw [numGo_more 0 3 n b ba (by rw [HC.out]; omega), HC.out, HBA.out]
          simp only [Int.pow_succ, Int.pow_zero, Int.one_mul, Int.mul_one]
          first | done | rfl
    · have hi4I : ((i : Nat) : Int) = 4 := by omega
      obtain rfl : i = 4 := by omega
      obtain ⟨q0, q1, v1, q2, q3⟩ := hst
      have k1 := cell_blk q2 1
      have f1 := frz_blk q2 1
      have s1 : (wr.setCell ⟨RB, 1, none⟩ (.bool true)).heap[RB]? = some (.cells #[v1, .bool true] 93) := set_blk q2 1 _
      clear hi4I
      go_wp2_with fail
      go_ret
      rw [← hgo.out]
      exact ⟨rfl, ⟨q0, q1.setCell (p := ⟨RB, 1, none⟩) q0 _, v1, s1, q3⟩, hg.trans (grownBy_setAt wr ⟨RB, 1, none⟩ _)⟩
end Go.Proofs.Ytbbemipidkhmfaa
