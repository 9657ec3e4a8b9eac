/-
  The iterator over letters; counts, places.
-/
import Derived.Test.YtlmkbldiicbejaaGreatDoorGaC
import Derived.Test.YtlmkbldiicbejaaGreatDoorPlainM
import Derived.LoopNIn
import Derived.LoopIn
import Derived.RangeFuncKeeps
import Derived.RangeFuncBound
import Derived.RangeFuncLeaves
import Derived.RangeFuncFrom
import Derived.OwnWalkIn
import Derived.TacticsInMore
import Derived.Test.YtlmkbldiicbejaaGreatDoorPlanT
namespace Go.Proofs.YtlmkbldiicbejaaGreatDoor
open Go.RowKit Go.Rp Go.Maps Go.Cl Go.Shelf Go.Gr

/-- The bounds of a text, by its classes. -/
noncomputable def bdG (s : ByteArray) : List Nat := bounds clsG s.data.toList
theorem pairsOf_length : ∀ l : List Nat, (pairsOf l).length = l.length - 1
  | [] => rfl
  | [_] => rfl
  | a :: b :: r => by
    have := pairsOf_length (b :: r)
    simp only [pairsOf, List.length_cons] at this ⊢
    omega
theorem pairsOf_get : ∀ (l : List Nat) (i : Nat) (h : i < (pairsOf l).length) (h1 : i < l.length) (h2 : i + 1 < l.length), (pairsOf l)[i] = (l[i], l[i + 1])
  | [], i, h, _, _ => by simp [pairsOf] at h
  | [_], i, h, _, _ => by simp [pairsOf] at h
  | a :: b :: r, 0, _, _, _ => by simp [pairsOf]
  | a :: b :: r, i + 1, h, h1, h2 => by
    have := pairsOf_get (b :: r) i (by simpa [pairsOf] using h) (by simpa using h1) (by simpa using h2)
    simpa [pairsOf] using this
theorem bdG_len (s : ByteArray) : (bdG s).length ≤ s.size + 2 := by
  by_cases h : s.size = 0
  · have : s.data.toList = [] := List.length_eq_zero_iff.1 ((len_eq s).trans h)
    unfold bdG bounds
    rw [if_pos this]
    simp
  · unfold bdG
    rw [bounds_blG s h, List.length_append]
    have := blG_len s (mk s).length
    simp
    omega
theorem bdG_le (s : ByteArray) : ∀ q ∈ bdG s, q ≤ s.size := fun q hq => by
  have := bounds_le clsG s.data.toList q hq
  rwa [len_eq] at this
theorem c_gEach (s : ByteArray) (w : World) : Calls Tryz.prog 84 #[.string s] w fun e w' => e = .returned (.func (.func 114) #[] #[.pointer (some ⟨w.heap.size, 0, none⟩)]) ∧ w' = w.alloc (.cells #[.string s] 9) := by
  go_enter Tryz.func84, Tryz.ntmps84
  go_wp2_with fail
  exact ret_one rfl rfl rfl ⟨rfl, rfl⟩
/-- A row of numbers, cell by cell. -/
def NRow (w : World) (v : Value) (l : List Nat) : Prop :=
  ∃ p cap, v = .slice p l.length cap ∧ l.length ≤ cap ∧ (l ≠ [] → ∃ b, p = some ⟨b, 0, none⟩ ∧ b < w.heap.size ∧ ∀ i (h : i < l.length), w.cell? ⟨b, i, none⟩ = some (.int .i64 (l[i] : Nat)))
theorem NRow.ext {w w' : World} {v : Value} {l : List Nat} (h : NRow w v l) (hx : Ext w w') : NRow w' v l := by
  obtain ⟨p, cap, rfl, hc, h2⟩ := h
  refine ⟨p, cap, rfl, hc, fun hne => ?_⟩
  obtain ⟨b, rfl, hb, h3⟩ := h2 hne
  exact ⟨b, rfl, Nat.lt_of_lt_of_le hb hx.sz, fun i hi => hx.cell (h3 i hi)⟩
theorem NRow.of_own {w : World} {B : Nat} {v : Value} {l : List Nat} (h : w.ownsRow B 3 1 v l.length (nW l)) : NRow w v l := by
  obtain ⟨p, cap, rfl⟩ := own_slice h
  refine ⟨p, cap, rfl, ?_, fun hne => ?_⟩
  · exact own_cap h
  · obtain ⟨g, rfl, _, hg, hc⟩ := own_at h (List.length_pos_iff.2 hne)
    exact ⟨g, rfl, hg, fun i hi => (hc i (by omega)).trans (by simp [nW, hi])⟩
/-- Cells of numbers from some block on stay. -/
def KI (B : Nat) (A C : World) : Prop := A.heap.size ≤ C.heap.size ∧ ∀ (b : Nat) (c : Array Value) (z : Nat × Nat), B ≤ b → A.heap[b]? = some (.cells c 3 z) → C.heap[b]? = some (.cells c 3 z)
theorem KI.trans {B : Nat} {A C D : World} (h : KI B A C) (k : KI B C D) : KI B A D := ⟨Nat.le_trans h.1 k.1, fun b c z hb hc => k.2 b c z hb (h.2 b c z hb hc)⟩
theorem KI.of_ext {B : Nat} {A C : World} (h : Ext A C) : KI B A C := ⟨h.sz, fun _ _ _ _ hc => h.blk hc⟩
theorem KI.put {B : Nat} (W : World) (l : Nat) (o o' : Obj) (h : W.heap[l]? = some o) (ho : o.isCells = false) : KI B W (W.putObj l o') :=
  ⟨(grownBy_putObj' W l o').size, fun b c z _ hc => (World.putObj_heap_other (by intro e; subst e; rw [h] at hc; cases hc; cases ho)).trans hc⟩
theorem KI.own {B B' n : Nat} {A C : World} {v : Value} {xs : List Value} (h : KI B A C) (ho : A.ownsRow B' 3 1 v n xs) (hB : B ≤ B') : C.ownsRow B' 3 1 v n xs := by
  obtain ⟨h1, h2⟩ := ho
  refine ⟨h1, ?_⟩
  rcases h2 with h2 | ⟨g, cap, cur, a, b, c, d⟩
  · exact .inl h2
  · exact .inr ⟨g, cap, cur, a, b, h.2 g cur (0, 0) (by omega) c, d⟩
set_option maxRecDepth 100000 in
set_option maxHeartbeats 4000000 in
/-- The function that Each hands back. -/
theorem g_stops {α : Type} (val : α → Nat × Nat) (PA : List α) (s : ByteArray) (hPA : PA.map val = pairsOf (bdG s)) (n Bs B : Nat) (w0 w : World) (hT : TabsW w0) (hz : s.size ≤ 65536) (hx0 : Ext w0 w) (hB : B ≤ w.heap.size) (hBs : w0.heap[Bs]? = some (.cells #[.string s] 9 (0, 0))) :
    SeqStopsK Fence.wide n Tryz.prog 114 #[.pointer (some ⟨Bs, 0, none⟩)] (fun x : α => #[Value.int .i64 ((val x).1 : Nat), Value.int .i64 ((val x).2 : Nat)]) (KI B)
      (fun ys => ys = PA) (fun pre => pre <+: PA) PA.length w := by
  intro l J Jx W hW hJ hJx hY h0
  have hall : ∀ f, Fence.wide.fn f := fun _ => trivial
  have hdd : ∀ k : Nat, (Fence.wide.depth.isSome = true → 1 ≤ k) := fun k h => by cases h
  have hxW : Ext w0 W := hx0.trans hW
  have HB := Lib.hid (c_Bounds s W (hT.ext hxW) hz)
  have hlen := bdG_len s
  have hps : PA.length = (bdG s).length - 1 := by rw [← pairsOf_length (bdG s), ← hPA, List.length_map]
  have hgt : ∀ (i : Nat) (h : i < PA.length) (h1 : i < (bdG s).length) (h2 : i + 1 < (bdG s).length), val PA[i] = ((bdG s)[i], (bdG s)[i + 1]) := fun i h h1 h2 => by
    have hl : i < (pairsOf (bdG s)).length := by rw [pairsOf_length]; omega
    rw [← pairsOf_get (bdG s) i hl h1 h2]
    have : (PA.map val)[i]'(by simpa using h) = val PA[i] := by simp
    rw [← this]
    congr 1
  clear hPA
  change Hid (Calls _ _ _ _ fun e w' => ∃ v, e = .returned v ∧ w'.ownsRow W.heap.size 3 1 v (bdG s).length (nW (bdG s)) ∧ Ext W w') at HB
  generalize bdG s = D at *
  have HG := Lib.hid hgt
  have HJ := Lib.hid hJ
  have HY := Lib.hid hY
  have H0 := Lib.hid h0
  have ca := cell_blk (hxW.blk hBs) 0
  have HW := Lib.hid (Nat.le_trans hB hW.size)
  clear hJ hJx hY h0 hW hgt
  refine callsIn_of_wp Tryz.func114 rfl (hall _) ?_ rfl
  simp only [Tryz.ntmps114, List.size_toArray, List.length_cons, List.length_nil, Nat.reduceAdd, Nat.reduceSub, Array.replicate_succ, Array.replicate_zero, List.push_toArray, List.append_toArray, List.nil_append, List.cons_append]
  gi_wp2_with fail
  refine ⟨hdd _, ?_⟩
  refine (callsIn_wide.2 HB.out).mono ?_
  rintro e w1 ⟨v, rfl, hown, hx1⟩
  have H1 := Lib.hid (HJ.out _ W w1 none H0.out (grown_ext hx1 none) (fun _ e => by cases e))
  obtain ⟨p, cap, rfl⟩ := own_slice hown
  have HR := Lib.hid hown
  clear hown hx1 HB H0 ca
  gi_wp2_with fail
  gi_loopw [4] (fun iv wr => ∃ i : Nat, iv = .int .i64 (i : Nat) ∧ 1 ≤ i ∧ i ≤ D.length + 1 ∧ Hid (J (PA.take (i - 1)) wr) ∧ Hid (wr.ownsRow W.heap.size 3 1 (.slice p D.length cap) D.length (nW D))) (fun iv _ => D.length + 2 - (intOf iv).toNat)
  case atStart => exact ⟨1, rfl, Nat.le_refl _, by omega, H1, HR⟩
  case round =>
    obtain ⟨i, rfl, hi1, hi2, HJ2, HX2⟩ := hrel
    by_cases hlt : i < D.length
    · have hI : ((i : Nat) : Int) < (D.length : Nat) := by omega
      have hDI : ((D.length : Nat) : Int) ≤ 65538 := by omega
      obtain ⟨g, rfl, hg0, hg, hcc⟩ := own_at HX2.out (by omega)
      have hce : ∀ j (h : j < D.length), wr.cell? ⟨g, j, none⟩ = some (.int .i64 (D[j] : Nat)) := fun j h => (hcc j (by omega)).trans (by simp [nW, h])
      have hc1 := hce i hlt
      obtain ⟨k, rfl⟩ : ∃ k, i = k + 1 := ⟨i - 1, by omega⟩
      have hc0 := hce k (by omega)
      have HGG := Lib.hid (HG.out k (by omega) (by omega) hlt)
      obtain ⟨x, hx⟩ : ∃ x, PA[k]'(by omega) = x := ⟨_, rfl⟩
      obtain ⟨a, ha⟩ : ∃ a, D[k] = a := ⟨_, rfl⟩
      obtain ⟨b, hb⟩ : ∃ b, D[k + 1] = b := ⟨_, rfl⟩
      rw [ha] at hc0
      rw [hb] at hc1
      rw [ha, hb, hx] at HGG
      have HXX := Lib.hid (show PA.take (k + 1) = PA.take k ++ [x] by rw [List.take_succ_eq_append_getElem (by omega), hx])
      clear hx
      have hk0 : ((k : Nat) : Int) + 1 < (D.length : Nat) := by omega
      have hk1 : ((k : Nat) : Int) < (D.length : Nat) := by omega
      have hk2 : k < D.length := by omega
      have hkw : wrap64 ((k : Nat) : Int) = (k : Nat) := IntWalk.wrap64_in _ (by omega)
      clear hcc hce ha hb hg0 hg
      gi_wp2_with fail
      have s0 : ∀ w', EOn (fun _ => True) wr w' → w'.cell? ⟨g, k, none⟩ = some (.int .i64 (a : Nat)) := fun w' hx => hx.cell trivial hc0
      have s1 : ∀ w', EOn (fun _ => True) wr w' → w'.cell? ⟨g, k + 1, none⟩ = some (.int .i64 (b : Nat)) := fun w' hx => hx.cell trivial hc1
      refine wpIn_first (fun _ => True) wideF [true, true, true, true, true, true, true, true, true, true] 10 (by kernel_rfl) (by kernel_rfl) rfl rfl ?_
      repeat first
        | refine wpG_move' ?_
        | refine wpG_assign' ?_
        | refine wpG_val' ?_
        | refine wpG_no' ?_
      refine wpG_end (fun w' hx => ?_)
      refine gQ_normal ⟨rfl, ?_⟩
      have hpre : (PA.take k).length < PA.length := by rw [List.length_take]; omega
      have HB0 := Lib.hid hx
      obtain ⟨fn, tmps, assign, body, hy, hRR⟩ := HY.out _ x w' (HJ.out _ wr w' none HJ2.out (grown_ext hx none) (fun _ e => by cases e)) hpre
      rw [HGG.out] at hy
      dsimp only at hy
      clear s0 s1 hx
      gi_wp2_with fail
      refine ⟨hdd _, ?_⟩
      refine hRR.mono ?_
      clear hRR
      rintro e W2 (⟨rfl, hJ2, hb2⟩ | ⟨rfl, hJx2⟩)
      · have HJ3 := Lib.hid (show J (PA.take (k + 1)) W2 by rw [HXX.out]; exact hJ2)
        have HX3 := Lib.hid hb2
        clear hJ2 hb2
        gi_wp2_with fail
        exact ⟨⟨k + 1 + 1, by simp, by omega, by omega, HJ3, Lib.hid (HX3.out.own (ownsRow_ext HX2.out HB0.out) HW.out)⟩, by simp only [intOf]; omega⟩
      · have hpx : PA.take k ++ [x] <+: PA := by
          rw [← HXX.out]
          exact List.take_prefix _ _
        have HPX := Lib.hid (And.intro hpx hJx2)
        clear hpx hJx2
        gi_wp2_with fail
        refine bodyPost_ret (results_none rfl _ _ _) rfl ?_
        exact ⟨⟨_, rfl⟩, .inr ⟨_, HPX.out⟩⟩
    · have hI : ¬ ((i : Nat) : Int) < (D.length : Nat) := by omega
      have hDI : ((D.length : Nat) : Int) ≤ 65538 := by omega
      have HALL := Lib.hid (show PA.take (i - 1) = PA from List.take_of_length_le (by omega))
      gi_wp2_with fail
      exact bodyPost_end (results_none rfl _ _ _) rfl ⟨⟨_, rfl⟩, .inl (by rw [← HALL.out]; exact HJ2.out)⟩
end Go.Proofs.YtlmkbldiicbejaaGreatDoor
