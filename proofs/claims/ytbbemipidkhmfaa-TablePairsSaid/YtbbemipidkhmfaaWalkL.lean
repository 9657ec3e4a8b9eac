/-
  A number's bytes.
-/
import Derived.Deep.AppendLies
import Derived.Test.YtbbemipidkhmfaaWalkK
namespace Go.Proofs.Ytbbemipidkhmfaa
open Go.RowKit Go.Maps Go.Shelf

/-- A number, seven bits a byte. -/
def numB (n : Nat) : List Int := if h : n < 128 then [(n : Int)] else ((n % 128 + 128 : Nat) : Int) :: numB (n / 128)
termination_by n
decreasing_by omega
theorem numB_small {n : Nat} (h : n < 128) : numB n = [(n : Int)] := by rw [numB, dif_pos h]
theorem numB_great {n : Nat} (h : ¬ n < 128) : numB n = ((n % 128 + 128 : Nat) : Int) :: numB (n / 128) := by rw [numB, dif_neg h]
/-- Bytes as cells. -/
def byV (l : List Int) : List Value := l.map (Value.int .u8)
theorem byV_append (a b : List Int) : byV (a ++ b) = byV a ++ byV b := by simp [byV]
theorem byV_length (l : List Int) : (byV l).length = l.length := by simp [byV]
theorem info5p : (Try.prog.info? 5).map (fun i => (i.zero, i.size, i.bytes)) = some (some (.int .u8 0), 1, 1) := by kernel_rfl
theorem cell1_new (w : World) (a : Value) (t : TypeId) : ∀ (j : Nat) u, [a][j]? = some u → (w.alloc (.cells #[a] t)).cell? ((⟨w.heap.size, 0, none⟩ : Addr).add j) = some u := by
  intro j u h
  have hadd : (⟨w.heap.size, 0, none⟩ : Addr).add j = ⟨w.heap.size, j, none⟩ := by unfold Addr.add; split <;> simp_all
  rw [hadd, cell_blk (World.alloc_heap_new w _) j]
  simpa using h

theorem bits_or128 (m : Nat) : bits BinOp.or IntKind.u8 ((m : Int) % 256) 128 = ((m % 128 + 128 : Nat) : Int) := by
  have key : ∀ k : Fin 256, bits BinOp.or IntKind.u8 ((k : Nat) : Int) 128 = (((k : Nat) % 128 + 128 : Nat) : Int) := by decide +kernel
  have := key ⟨m % 256, by omega⟩
  simp only at this
  rw [show ((m : Int) % 256) = ((m % 256 : Nat) : Int) from by omega, this]
  congr 1
  omega
/-- What lies outside the row v is as it was; where the row x lies now. -/
def Far (v : Value) (w : World) (x : Value) (w' : World) : Prop :=
  w.heap.size ≤ w'.heap.size ∧ (∀ k, k < w.heap.size → some k ≠ v.ownBlock → w'.heap[k]? = w.heap[k]?) ∧ (x.ownBlock = v.ownBlock ∨ ∀ g, x.ownBlock = some g → w.heap.size ≤ g)
theorem Far.refl (v : Value) (w : World) : Far v w v w := ⟨Nat.le_refl _, fun _ _ _ => rfl, .inl rfl⟩
theorem Far.alloc {v x : Value} {w w' : World} (h : Far v w x w') (o : Obj) : Far v w x (w'.alloc o) :=
  ⟨Nat.le_trans h.1 (by simp), fun k hk hv => (heap_alloc_old w' o (by have := h.1; omega)).trans (h.2.1 k hk hv), h.2.2⟩
theorem Far.grown {v x : Value} {w w' w'' : World} (h : Far v w x w') (hg : w'.grownBy w'' x.ownBlock) {g n c H : Nat} (hx : x.ownBlock = some g ∨ g = H) (hH : w'.heap.size = H) : Far v w (.slice (some ⟨g, 0, none⟩) n c) w'' := by
  refine ⟨Nat.le_trans h.1 hg.size, fun k hk hv => ?_, ?_⟩
  · refine (hg.block k (by have := h.1; omega) (fun e => ?_)).trans (h.2.1 k hk hv)
    rcases h.2.2 with h3 | h3
    · exact hv (e.trans h3)
    · have := h3 k e.symm; omega
  · rcases hx with hx | hx
    · rcases h.2.2 with h3 | h3
      · exact .inl (hx.symm.trans h3)
      · exact .inr fun g' e => h3 g' (by rw [hx]; exact e)
    · refine .inr fun g' e => ?_
      have e2 : g = g' := by simpa [Value.ownBlock] using e
      have := h.1
      omega
theorem Far.blk {v x : Value} {w w' : World} (h : Far v w x w') {k : Nat} {o : Obj} (hk : w.heap[k]? = some o) (hv : some k ≠ v.ownBlock) : w'.heap[k]? = some o := (h.2.1 k (blk_lt hk) hv).trans hk
set_option maxRecDepth 100000 in
set_option maxHeartbeats 4000000 in
theorem c_number (v : Value) (l : List Int) (n : Nat) (n₀ : Nat) (w : World) (h : w.ownsRow n₀ 5 1 v l.length (byV l)) (h0 : n₀ ≤ w.heap.size) (hn : n ≤ 4294967296) (hl : l.length ≤ 100000000) :
    Calls Try.prog 59 #[v, .int .i64 (n : Nat)] w fun e w' => ∃ v', e = .returned v' ∧ w'.ownsRow n₀ 5 1 v' (l ++ numB n).length (byV (l ++ numB n)) ∧ Below n₀ w w' ∧ Far v w v' w' := by
  obtain ⟨i0, hi, hz0, hz1, hz2⟩ := info_parts info5p
  go_enter Try.func59, Try.ntmps59
  go_wp2_with fail
  go_loopw [0, 1] (fun x y w' => ∃ (m : Nat) (b : List Int), y = .int .i64 (m : Nat) ∧ m ≤ n ∧ b.length + m ≤ l.length + n ∧ Hid (b ++ numB m = l ++ numB n) ∧ w'.ownsRow n₀ 5 1 x b.length (byV b) ∧ Below n₀ w w' ∧ Far v w x w') (fun _ y _ => (intOf y).toNat)
  case atStart => exact ⟨n, l, rfl, Nat.le_refl _, Nat.le_refl _, Lib.hid rfl, h, Below.refl _ _, Far.refl _ _⟩
  case round =>
    obtain ⟨m, b, rfl, hm, hbm, hb, hrow, hbl, hfar⟩ := hrel
    have hsz : n₀ ≤ wr.heap.size := by have := hbl.size; omega
    by_cases hlt : m < 128
    · have hlI : ((m : Nat) : Int) < 128 := by omega
      have hrow1 := ownsRow_ext hrow ((Ext.refl wr).alloc (.cells #[.int .u8 (m : Nat)] 5))
      have hfar1 := hfar.alloc (.cells #[.int .u8 (m : Nat)] 5)
      go_wp2_with (at_builtin; refine wpList_append_lies _ rfl (.tmp 15) (.tmp 18) 45 rfl n₀ 5 i0 (.int .u8 0) 1 1 Try.underlying45 hi hz0 hz1 hz2 rfl (by decide) _ b.length (byV b) rfl hrow1 ⟨wr.heap.size, 0, none⟩ 1 1 [.int .u8 (m : Nat)] rfl rfl (cell1_new wr _ _) (by intro u hu; simp at hu; rw [hu]; rfl) (by decide) (by unfold maxLen; omega) (by omega) (by simp; omega) _ rfl ?_; intro g' cap' w1 hown' hgrow hlies hglt)
      go_ret
      have e : b ++ [(m : Int)] = l ++ numB n := by rw [← numB_small hlt]; exact hb.out
      refine ⟨_, rfl, ?_, ?_, hfar1.grown hgrow hlies rfl⟩
      · rw [← e, byV_append]
        rw [List.length_append]
        exact hown'
      · exact ((hbl.alloc hsz _).grown hgrow (by simp; omega) (fun k e => (hrow1.lt k e).1))
    · have hlI : (128 : Int) ≤ ((m : Nat) : Int) := by omega
      obtain ⟨c, hc⟩ : ∃ c, bits BinOp.or IntKind.u8 ((m : Int) % 256) 128 = c := ⟨_, rfl⟩
      have hcv := bits_or128 m
      rw [hc] at hcv
      have HCV := Lib.hid hcv
      have hrow1 := ownsRow_ext hrow ((Ext.refl wr).alloc (.cells #[.int .u8 c] 5))
      have hfar1 := hfar.alloc (.cells #[.int .u8 c] 5)
      clear hcv
      go_wp2_with (at_builtin; refine wpList_append_lies _ rfl (.tmp 7) (.tmp 11) 45 rfl n₀ 5 i0 (.int .u8 0) 1 1 Try.underlying45 hi hz0 hz1 hz2 rfl (by decide) _ b.length (byV b) rfl hrow1 ⟨wr.heap.size, 0, none⟩ 1 1 [.int .u8 c] rfl rfl (cell1_new wr _ _) (by intro u hu; simp at hu; rw [hu]; rfl) (by decide) (by unfold maxLen; omega) (by omega) (by simp; omega) _ rfl ?_; intro g' cap' w1 hown' hgrow hlies hglt)
      refine ⟨⟨m / 128, b ++ [c], by simp, by omega, by simp; omega, Lib.hid ?_, ?_, (hbl.alloc hsz _).grown hgrow (by simp; omega) (fun k e => (hrow1.lt k e).1), hfar1.grown hgrow hlies rfl⟩, by simp [intOf]; omega⟩
      · rw [List.append_assoc, ← hb.out, numB_great hlt, HCV.out]
        rfl
      · rw [List.length_append, byV_append]
        exact hown'
theorem numB_length : ∀ (k n : Nat), n < 128 ^ (k + 1) → (numB n).length ≤ k + 1
  | 0, n, h => by rw [numB_small (by simpa using h)]; simp
  | k + 1, n, h => by
    by_cases hn : n < 128
    · rw [numB_small hn]; simp
    · rw [numB_great hn]
      have := numB_length k (n / 128) (by rw [Nat.pow_succ] at h; omega)
      simp
      exact this
theorem numB_byte (n : Nat) : ∀ x ∈ numB n, 0 ≤ x ∧ x ≤ 255 := by
  induction n using Nat.strongRecOn with
  | ind n ih =>
    by_cases hn : n < 128
    · rw [numB_small hn]; intro x hx; simp at hx; omega
    · rw [numB_great hn]
      intro x hx
      rcases List.mem_cons.1 hx with rfl | hx
      · omega
      · exact ih (n / 128) (by omega) x hx
end Go.Proofs.Ytbbemipidkhmfaa
