/-
  Two nodes of which the second one is deeper by two.
-/
import Derived.Test.YtohpekbooapcjaaDoorWalkF
namespace Go.Proofs.YtohpekbooapcjaaDoor
open Go.RowKit Go.Rp

set_option maxRecDepth 100000 in
set_option maxHeartbeats 4000000 in
theorem bal_3 (blk : Nat) (vx vy va : Value) (x y ta : T) (w : World) (hX : IsNode w vx x) (hY : IsNode w vy y) (hA : IsNode w va ta)
    (hc : w.heap[blk]? = some (.cells (brA vx vy x y) 96 (0, 0))) (h1 : y.deep = ta.deep + 1) (h2 : x.deep ≤ y.deep) (h3 : ta.deep ≤ x.deep)
    (hs : ta.text.size + (x.text.size + y.text.size) ≤ 1099511627776) (hp : ta.deep ≤ 900) :
    Calls Tryd.prog 61 #[va, .iface 94 (.pointer (some ⟨blk, 0, none⟩))] w (Joined w ta (.br x y)) := by
  have hB : IsNode w (.iface 94 (.pointer (some ⟨blk, 0, none⟩))) (.br x y) := .br _ _ _ _ _ hX hY (by omega) hc
  have hAd : ta.deep + 1 < (T.br x y).deep ∧ (T.br x y).deep ≤ ta.deep + 2 := by simp only [T.deep]; omega
  obtain ⟨g1, g2⟩ := hAd
  obtain ⟨Tx, xx, rfl⟩ := hX.iface
  obtain ⟨Ty, xy, rfl⟩ := hY.iface
  obtain ⟨Ta, xa, rfl⟩ := hA.iface
  have H1 := Lib.hid h1
  have hlo : y.deep ≤ ta.deep + 1 := by omega
  have hhi : ta.deep + 1 ≤ y.deep := by omega
  clear h1
  have qA : ∀ w', Ext w w' → ∀ i, w'.cell? ⟨blk, i, none⟩ = _ := fun w' h i => cell_blk (h.blk hc) i
  unfold brA at qA
  go_enter Tryd.func61, Tryd.ntmps61
  go_wp2_with (first
    | (refine upon_depth hA ?_; go_simp)
    | (refine upon_depth hB ?_; go_simp))
  refine wp_lex [true, true, true, true, true, true, true, true, true, true, true] (by kernel_rfl) (by kernel_rfl) ?_
  repeat first
    | refine wpG_move (by rfl) (by simp only [Act.eval, Array.getD_eq_getD_getElem?, List.getElem?_toArray, List.getElem?_cons_succ, List.getElem?_cons_zero, Option.getD_some]; try rfl) (by simp only [Act.put, List.setIfInBounds_toArray, List.set_cons_succ, List.set_cons_zero]; rfl) ?_
    | refine wpG_assign (by rfl) (by simp only [Act.eval, Array.getD_eq_getD_getElem?, List.getElem?_toArray, List.getElem?_cons_succ, List.getElem?_cons_zero, Option.getD_some]; try rfl) (by simp only [Act.put, List.setIfInBounds_toArray, List.set_cons_succ, List.set_cons_zero]; rfl) ?_
    | refine wpG_depth (by simp only [Act.eval, Array.getD_eq_getD_getElem?, List.getElem?_toArray, List.getElem?_cons_succ, List.getElem?_cons_zero, Option.getD_some]; try rfl) (by assumption) (by simp only [Act.put, List.setIfInBounds_toArray, List.set_cons_succ, List.set_cons_zero]; rfl) ?_
    | refine wpG_val (by rfl) (fun w' hx => (by go_simp; first | (go_bits; first | exact rfl | exact ⟨by omega, rfl⟩) | exact rfl | exact (if_neg (by omega)).trans rfl | exact ⟨by omega, rfl⟩)) (by simp only [Act.put, List.setIfInBounds_toArray, List.set_cons_succ, List.set_cons_zero]; rfl) ?_
    | refine wpG_no (by rfl) (by simp only [Act.put, List.setIfInBounds_toArray, List.set_cons_succ, List.set_cons_zero]; rfl) ?_
  refine wpG_end (fun w1 hx1 => wpList_nil (gQ_normal ?_))
  go_wp2_with fail
  have qA : ∀ w', Ext w1 w' → ∀ i, w'.cell? ⟨blk, i, none⟩ = _ := fun w' h i => cell_blk ((hx1.trans h).blk hc) i
  unfold brA at qA
  refine wp_perm [0, 1, 2, 3, 4, 7, 8, 9, 10, 5, 6, 11, 12, 13] [true, true, true, true, true, true, true, true, true, false, true, false, true, true] (by kernel_rfl) (by kernel_rfl) (by simp only [List.map_cons, List.map_nil, nth]; rfl) ?_
  repeat first
    | refine wpG_move (by rfl) (by simp only [Act.eval, Array.getD_eq_getD_getElem?, List.getElem?_toArray, List.getElem?_cons_succ, List.getElem?_cons_zero, Option.getD_some]; try rfl) (by simp only [Act.put, List.setIfInBounds_toArray, List.set_cons_succ, List.set_cons_zero]; rfl) ?_
    | refine wpG_assign (by rfl) (by simp only [Act.eval, Array.getD_eq_getD_getElem?, List.getElem?_toArray, List.getElem?_cons_succ, List.getElem?_cons_zero, Option.getD_some]; try rfl) (by simp only [Act.put, List.setIfInBounds_toArray, List.set_cons_succ, List.set_cons_zero]; rfl) ?_
    | refine wpG_val (by rfl) (fun w' hx => (by go_simp; first | (go_bits; first | exact rfl | exact ⟨by omega, rfl⟩) | exact rfl | exact (if_neg (by omega)).trans rfl | exact ⟨by omega, rfl⟩)) (by simp only [Act.put, List.setIfInBounds_toArray, List.set_cons_succ, List.set_cons_zero]; rfl) ?_
    | refine wpG_no (by rfl) (by simp only [Act.put, List.setIfInBounds_toArray, List.set_cons_succ, List.set_cons_zero]; rfl) ?_
  refine wpG_do (by rfl) (fun w2 hx2 K hK => ?_)
  go_wp2_with (go_at_call 62; refine (c_two _ _ ta x _ (hA.mono (hx1.trans (hx2))) (hX.mono (hx1.trans (hx2))) (by (try simp only [T.deep]); omega) (by (try simp only [T.text, ByteArray.size_append]); omega) (by (try simp only [T.deep]); omega) (by (try simp only [T.deep]); omega)).mono ?_; rintro e w3 ⟨b3, rfl, hn3, hx3⟩)
  refine ⟨hx3, ?_⟩
  repeat first
    | refine wpG_move (by rfl) (by simp only [Act.eval, Array.getD_eq_getD_getElem?, List.getElem?_toArray, List.getElem?_cons_succ, List.getElem?_cons_zero, Option.getD_some]; try rfl) (by simp only [Act.put, List.setIfInBounds_toArray, List.set_cons_succ, List.set_cons_zero]; rfl) ?_
    | refine wpG_assign (by rfl) (by simp only [Act.eval, Array.getD_eq_getD_getElem?, List.getElem?_toArray, List.getElem?_cons_succ, List.getElem?_cons_zero, Option.getD_some]; try rfl) (by simp only [Act.put, List.setIfInBounds_toArray, List.set_cons_succ, List.set_cons_zero]; rfl) ?_
    | refine wpG_val (by rfl) (fun w' hx => (by go_simp; first | (go_bits; first | exact rfl | exact ⟨by omega, rfl⟩) | exact rfl | exact (if_neg (by omega)).trans rfl | exact ⟨by omega, rfl⟩)) (by simp only [Act.put, List.setIfInBounds_toArray, List.set_cons_succ, List.set_cons_zero]; rfl) ?_
    | refine wpG_no (by rfl) (by simp only [Act.put, List.setIfInBounds_toArray, List.set_cons_succ, List.set_cons_zero]; rfl) ?_
  refine wpG_do (by rfl) (fun w4 hx4 K hK => ?_)
  go_wp2_with (go_at_call 62; refine (c_two _ _ (.br ta x) y _ (hn3.mono hx4) (hY.mono (hx1.trans (hx2.trans (hx3.trans (hx4))))) (by (try simp only [T.deep]); omega) (by (try simp only [T.text, ByteArray.size_append]); omega) (by (try simp only [T.deep]); omega) (by (try simp only [T.deep]); omega)).mono ?_; rintro e w5 ⟨b5, rfl, hn5, hx5⟩)
  refine ⟨hx5, ?_⟩
  repeat first
    | refine wpG_move (by rfl) (by simp only [Act.eval, Array.getD_eq_getD_getElem?, List.getElem?_toArray, List.getElem?_cons_succ, List.getElem?_cons_zero, Option.getD_some]; try rfl) (by simp only [Act.put, List.setIfInBounds_toArray, List.set_cons_succ, List.set_cons_zero]; rfl) ?_
    | refine wpG_assign (by rfl) (by simp only [Act.eval, Array.getD_eq_getD_getElem?, List.getElem?_toArray, List.getElem?_cons_succ, List.getElem?_cons_zero, Option.getD_some]; try rfl) (by simp only [Act.put, List.setIfInBounds_toArray, List.set_cons_succ, List.set_cons_zero]; rfl) ?_
    | refine wpG_val (by rfl) (fun w' hx => (by go_simp; first | (go_bits; first | exact rfl | exact ⟨by omega, rfl⟩) | exact rfl | exact (if_neg (by omega)).trans rfl | exact ⟨by omega, rfl⟩)) (by simp only [Act.put, List.setIfInBounds_toArray, List.set_cons_succ, List.set_cons_zero]; rfl) ?_
    | refine wpG_no (by rfl) (by simp only [Act.put, List.setIfInBounds_toArray, List.set_cons_succ, List.set_cons_zero]; rfl) ?_
  refine wpG_end (fun w6 hx6 => wpList_nil (gQ_normal ?_))
  go_wp2_with fail
  have H := H1.out
  exact ret_one rfl rfl rfl ⟨_, _, rfl, hn5.mono hx6, by simp only [T.text, ByteArray.append_assoc], by simp only [T.deep]; omega, by simp only [T.deep]; omega, (hx1.trans (hx2.trans (hx3.trans (hx4.trans (hx5.trans (hx6))))))⟩

set_option maxRecDepth 100000 in
set_option maxHeartbeats 4000000 in
theorem bal_4 (blk bl2 : Nat) (vp vq vz va : Value) (p q z ta : T) (w : World) (hP : IsNode w vp p) (hQ : IsNode w vq q) (hZ : IsNode w vz z) (hA : IsNode w va ta)
    (hc : w.heap[blk]? = some (.cells (brA (.iface 94 (.pointer (some ⟨bl2, 0, none⟩))) vz (.br p q) z) 96 (0, 0)))
    (hc2 : w.heap[bl2]? = some (.cells (brA vp vq p q) 96 (0, 0))) (h1 : (T.br p q).deep = ta.deep + 1) (h2 : z.deep = ta.deep) (h3 : p.deep ≤ q.deep + 1) (h4 : q.deep ≤ p.deep + 1)
    (hs : ta.text.size + ((p.text.size + q.text.size) + z.text.size) ≤ 1099511627776) (hp : ta.deep ≤ 900) :
    Calls Tryd.prog 61 #[va, .iface 94 (.pointer (some ⟨blk, 0, none⟩))] w (Joined w ta (.br (.br p q) z)) := by
  have hY : IsNode w (.iface 94 (.pointer (some ⟨bl2, 0, none⟩))) (.br p q) := .br _ _ _ _ _ hP hQ (by omega) hc2
  have hB : IsNode w (.iface 94 (.pointer (some ⟨blk, 0, none⟩))) (.br (.br p q) z) := .br _ _ _ _ _ hY hZ (by omega) hc
  have hAd : ta.deep + 1 < (T.br (.br p q) z).deep ∧ (T.br (.br p q) z).deep ≤ ta.deep + 2 := by simp only [T.deep] at *; omega
  obtain ⟨g1, g2⟩ := hAd
  obtain ⟨Tz, xz, rfl⟩ := hZ.iface
  obtain ⟨Tp, xp, rfl⟩ := hP.iface
  obtain ⟨Tq, xq, rfl⟩ := hQ.iface
  obtain ⟨Ta, xa, rfl⟩ := hA.iface
  have g3 : z.deep < (T.br p q).deep := by omega
  simp only [T.deep] at h1
  have H1 := Lib.hid h1
  have H2 := Lib.hid h2
  have k1 : p.deep ≤ ta.deep ∧ q.deep ≤ ta.deep ∧ ta.deep ≤ p.deep + 1 ∧ ta.deep ≤ q.deep + 1 ∧ z.deep ≤ ta.deep ∧ ta.deep ≤ z.deep := by omega
  obtain ⟨k1, k2, k3, k4, k5, k6⟩ := k1
  clear h1 h2
  have qA : ∀ w', Ext w w' → ∀ i, w'.cell? ⟨blk, i, none⟩ = _ := fun w' h i => cell_blk (h.blk hc) i
  unfold brA at qA
  go_enter Tryd.func61, Tryd.ntmps61
  go_wp2_with (first
    | (refine upon_depth hA ?_; go_simp)
    | (refine upon_depth hB ?_; go_simp))
  refine wp_lex [true, true, true, true, true, true, true, true, true, true, true] (by kernel_rfl) (by kernel_rfl) ?_
  repeat first
    | refine wpG_move (by rfl) (by simp only [Act.eval, Array.getD_eq_getD_getElem?, List.getElem?_toArray, List.getElem?_cons_succ, List.getElem?_cons_zero, Option.getD_some]; try rfl) (by simp only [Act.put, List.setIfInBounds_toArray, List.set_cons_succ, List.set_cons_zero]; rfl) ?_
    | refine wpG_assign (by rfl) (by simp only [Act.eval, Array.getD_eq_getD_getElem?, List.getElem?_toArray, List.getElem?_cons_succ, List.getElem?_cons_zero, Option.getD_some]; try rfl) (by simp only [Act.put, List.setIfInBounds_toArray, List.set_cons_succ, List.set_cons_zero]; rfl) ?_
    | refine wpG_depth (by simp only [Act.eval, Array.getD_eq_getD_getElem?, List.getElem?_toArray, List.getElem?_cons_succ, List.getElem?_cons_zero, Option.getD_some]; try rfl) (by assumption) (by simp only [Act.put, List.setIfInBounds_toArray, List.set_cons_succ, List.set_cons_zero]; rfl) ?_
    | refine wpG_val (by rfl) (fun w' hx => (by go_simp; first | (go_bits; first | exact rfl | exact ⟨by omega, rfl⟩) | exact rfl | exact (if_neg (by omega)).trans rfl | exact ⟨by omega, rfl⟩)) (by simp only [Act.put, List.setIfInBounds_toArray, List.set_cons_succ, List.set_cons_zero]; rfl) ?_
    | refine wpG_no (by rfl) (by simp only [Act.put, List.setIfInBounds_toArray, List.set_cons_succ, List.set_cons_zero]; rfl) ?_
  refine wpG_end (fun w1 hx1 => wpList_nil (gQ_normal ?_))
  have qA : ∀ i, w1.cell? ⟨blk, i, none⟩ = _ := fun i => cell_blk (hx1.blk hc) i
  unfold brA at qA
  go_wp2_with fail
  clear qA
  have qA : ∀ w', Ext w1 w' → ∀ i, w'.cell? ⟨blk, i, none⟩ = _ := fun w' h i => cell_blk ((hx1.trans h).blk hc) i
  unfold brA at qA
  have qB : ∀ w', Ext w1 w' → ∀ i, w'.cell? ⟨bl2, i, none⟩ = _ := fun w' h i => cell_blk ((hx1.trans h).blk hc2) i
  unfold brA at qB
  refine wp_perm [0, 1, 2, 3, 4, 7, 8, 9, 10, 11, 12, 13, 14, 5, 6, 15, 16, 17, 18, 19] [true, true, true, true, true, true, true, true, true, true, true, true, true, false, true, false, true, false, true, true] (by kernel_rfl) (by kernel_rfl) (by simp only [List.map_cons, List.map_nil, nth]; rfl) ?_
  repeat first
    | refine wpG_move (by rfl) (by simp only [Act.eval, Array.getD_eq_getD_getElem?, List.getElem?_toArray, List.getElem?_cons_succ, List.getElem?_cons_zero, Option.getD_some]; try rfl) (by simp only [Act.put, List.setIfInBounds_toArray, List.set_cons_succ, List.set_cons_zero]; rfl) ?_
    | refine wpG_assign (by rfl) (by simp only [Act.eval, Array.getD_eq_getD_getElem?, List.getElem?_toArray, List.getElem?_cons_succ, List.getElem?_cons_zero, Option.getD_some]; try rfl) (by simp only [Act.put, List.setIfInBounds_toArray, List.set_cons_succ, List.set_cons_zero]; rfl) ?_
    | refine wpG_val (by rfl) (fun w' hx => (by go_simp; first | (go_bits; first | exact rfl | exact ⟨by omega, rfl⟩) | exact rfl | exact (if_neg (by omega)).trans rfl | exact ⟨by omega, rfl⟩)) (by simp only [Act.put, List.setIfInBounds_toArray, List.set_cons_succ, List.set_cons_zero]; rfl) ?_
    | refine wpG_no (by rfl) (by simp only [Act.put, List.setIfInBounds_toArray, List.set_cons_succ, List.set_cons_zero]; rfl) ?_
  refine wpG_do (by rfl) (fun w2 hx2 K hK => ?_)
  go_wp2_with (go_at_call 62; refine (c_two _ _ ta p _ (hA.mono (hx1.trans (hx2))) (hP.mono (hx1.trans (hx2))) (by (try simp only [T.deep]); omega) (by (try simp only [T.text, ByteArray.size_append]); omega) (by (try simp only [T.deep]); omega) (by (try simp only [T.deep]); omega)).mono ?_; rintro e w3 ⟨b3, rfl, hn3, hx3⟩)
  refine ⟨hx3, ?_⟩
  repeat first
    | refine wpG_move (by rfl) (by simp only [Act.eval, Array.getD_eq_getD_getElem?, List.getElem?_toArray, List.getElem?_cons_succ, List.getElem?_cons_zero, Option.getD_some]; try rfl) (by simp only [Act.put, List.setIfInBounds_toArray, List.set_cons_succ, List.set_cons_zero]; rfl) ?_
    | refine wpG_assign (by rfl) (by simp only [Act.eval, Array.getD_eq_getD_getElem?, List.getElem?_toArray, List.getElem?_cons_succ, List.getElem?_cons_zero, Option.getD_some]; try rfl) (by simp only [Act.put, List.setIfInBounds_toArray, List.set_cons_succ, List.set_cons_zero]; rfl) ?_
    | refine wpG_val (by rfl) (fun w' hx => (by go_simp; first | (go_bits; first | exact rfl | exact ⟨by omega, rfl⟩) | exact rfl | exact (if_neg (by omega)).trans rfl | exact ⟨by omega, rfl⟩)) (by simp only [Act.put, List.setIfInBounds_toArray, List.set_cons_succ, List.set_cons_zero]; rfl) ?_
    | refine wpG_no (by rfl) (by simp only [Act.put, List.setIfInBounds_toArray, List.set_cons_succ, List.set_cons_zero]; rfl) ?_
  refine wpG_do (by rfl) (fun w4 hx4 K hK => ?_)
  go_wp2_with (go_at_call 62; refine (c_two _ _ q z _ (hQ.mono (hx1.trans (hx2.trans (hx3.trans (hx4))))) (hZ.mono (hx1.trans (hx2.trans (hx3.trans (hx4))))) (by (try simp only [T.deep]); omega) (by (try simp only [T.text, ByteArray.size_append]); omega) (by (try simp only [T.deep]); omega) (by (try simp only [T.deep]); omega)).mono ?_; rintro e w5 ⟨b5, rfl, hn5, hx5⟩)
  refine ⟨hx5, ?_⟩
  repeat first
    | refine wpG_move (by rfl) (by simp only [Act.eval, Array.getD_eq_getD_getElem?, List.getElem?_toArray, List.getElem?_cons_succ, List.getElem?_cons_zero, Option.getD_some]; try rfl) (by simp only [Act.put, List.setIfInBounds_toArray, List.set_cons_succ, List.set_cons_zero]; rfl) ?_
    | refine wpG_assign (by rfl) (by simp only [Act.eval, Array.getD_eq_getD_getElem?, List.getElem?_toArray, List.getElem?_cons_succ, List.getElem?_cons_zero, Option.getD_some]; try rfl) (by simp only [Act.put, List.setIfInBounds_toArray, List.set_cons_succ, List.set_cons_zero]; rfl) ?_
    | refine wpG_val (by rfl) (fun w' hx => (by go_simp; first | (go_bits; first | exact rfl | exact ⟨by omega, rfl⟩) | exact rfl | exact (if_neg (by omega)).trans rfl | exact ⟨by omega, rfl⟩)) (by simp only [Act.put, List.setIfInBounds_toArray, List.set_cons_succ, List.set_cons_zero]; rfl) ?_
    | refine wpG_no (by rfl) (by simp only [Act.put, List.setIfInBounds_toArray, List.set_cons_succ, List.set_cons_zero]; rfl) ?_
  refine wpG_do (by rfl) (fun w6 hx6 K hK => ?_)
  go_wp2_with (go_at_call 62; refine (c_two _ _ (.br ta p) (.br q z) _ (hn3.mono (hx4.trans (hx5.trans (hx6)))) (hn5.mono hx6) (by (try simp only [T.deep]); omega) (by (try simp only [T.text, ByteArray.size_append]); omega) (by (try simp only [T.deep]); omega) (by (try simp only [T.deep]); omega)).mono ?_; rintro e w7 ⟨b7, rfl, hn7, hx7⟩)
  refine ⟨hx7, ?_⟩
  repeat first
    | refine wpG_move (by rfl) (by simp only [Act.eval, Array.getD_eq_getD_getElem?, List.getElem?_toArray, List.getElem?_cons_succ, List.getElem?_cons_zero, Option.getD_some]; try rfl) (by simp only [Act.put, List.setIfInBounds_toArray, List.set_cons_succ, List.set_cons_zero]; rfl) ?_
    | refine wpG_assign (by rfl) (by simp only [Act.eval, Array.getD_eq_getD_getElem?, List.getElem?_toArray, List.getElem?_cons_succ, List.getElem?_cons_zero, Option.getD_some]; try rfl) (by simp only [Act.put, List.setIfInBounds_toArray, List.set_cons_succ, List.set_cons_zero]; rfl) ?_
    | refine wpG_val (by rfl) (fun w' hx => (by go_simp; first | (go_bits; first | exact rfl | exact ⟨by omega, rfl⟩) | exact rfl | exact (if_neg (by omega)).trans rfl | exact ⟨by omega, rfl⟩)) (by simp only [Act.put, List.setIfInBounds_toArray, List.set_cons_succ, List.set_cons_zero]; rfl) ?_
    | refine wpG_no (by rfl) (by simp only [Act.put, List.setIfInBounds_toArray, List.set_cons_succ, List.set_cons_zero]; rfl) ?_
  refine wpG_end (fun w8 hx8 => wpList_nil (gQ_normal ?_))
  go_wp2_with fail
  have H := H1.out
  have H' := H2.out
  exact ret_one rfl rfl rfl ⟨_, _, rfl, hn7.mono hx8, by simp only [T.text, ByteArray.append_assoc], by simp only [T.deep]; omega, by simp only [T.deep]; omega, (hx1.trans (hx2.trans (hx3.trans (hx4.trans (hx5.trans (hx6.trans (hx7.trans (hx8))))))))⟩
end Go.Proofs.YtohpekbooapcjaaDoor

