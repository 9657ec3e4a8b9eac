/-
 A row of elements sorted in place, stably. The elements of a text, sorted.
-/
import Derived.Test.YtokeamebcdhnpaaGreatDoorWalkP
section
namespace Go.Proofs.YtokeamebcdhnpaaGreatDoor
open Go.RowKit Go.Rp Go.Shelf Go.Maps Go.Nm

/-- Each k elements sorted. -/
def sortB (k : Nat) (L : List El) : List El :=
 if _h : L.length ≤ k ∨ k = 0 then sortL L else sortL (L.take k) ++ sortB k (L.drop k)
termination_by L.length
decreasing_by rw [List.length_drop]; omega
theorem sortB_small {k : Nat} {L : List El} (h : L.length ≤ k) : sortB k L = sortL L := by rw [sortB, dif_pos (.inl h)]
theorem sortB_step {k : Nat} {L : List El} (hk : 0 < k) (_h : k ≤ L.length) : sortB k L = sortL (L.take k) ++ sortB k (L.drop k) := by
 by_cases h1 : L.length ≤ k
 ·rw [sortB_small h1, List.take_of_length_le h1, List.drop_of_length_le h1, sortB_small (by simp)]
  simp [sortL]
 ·rw [sortB, dif_neg (by omega)]
theorem sortB_len {k : Nat} (hk : 0 < k) : ∀ (n : Nat) (L : List El), L.length ≤ n → (sortB k L).length = L.length
 | 0, L, h => by rw [sortB_small (by omega), sortL_len]
 | n + 1, L, h => by
  by_cases h1 : L.length ≤ k
  ·rw [sortB_small h1, sortL_len]
  ·rw [sortB_step hk (by omega), List.length_append, sortL_len, sortB_len hk n (L.drop k) (by rw [List.length_drop]; omega), List.length_take, List.length_drop]
   omega
theorem sortB_mem {k : Nat} (hk : 0 < k) {x : El} : ∀ (n : Nat) (L : List El), L.length ≤ n → (x ∈ sortB k L ↔ x ∈ L)
 | 0, L, h => by rw [sortB_small (by omega), sortL_mem]
 | n + 1, L, h => by
  by_cases h1 : L.length ≤ k
  ·rw [sortB_small h1, sortL_mem]
  ·rw [sortB_step hk (by omega), List.mem_append, sortL_mem, sortB_mem hk n (L.drop k) (by rw [List.length_drop]; omega)]
   rw [← List.mem_append, List.take_append_drop]
theorem sortL_both (a b : List El) : sortL (sortL a ++ sortL b) = sortL (a ++ b) := by
 rw [sortL_back, sortL_front a (sortL_idem b)]
/-- Two blocks and what stands behind them. -/
theorem sortB_two {k : Nat} (hk : 0 < k) {L : List El} (h : k + k ≤ L.length) : sortB k L = sortL (L.take k) ++ (sortL ((L.drop k).take k) ++ sortB k (L.drop (k + k))) ∧ sortB (k + k) L = sortL (sortL (L.take k) ++ sortL ((L.drop k).take k)) ++ sortB (k + k) (L.drop (k + k)) := by
 constructor
 ·rw [sortB_step hk (by omega), sortB_step hk (L := L.drop k) (by rw [List.length_drop]; omega), List.drop_drop]
 ·rw [sortB_step (by omega) h, sortL_both]
  congr 2
  rw [List.take_add]
theorem sortB_last {k : Nat} (hk : 0 < k) {L : List El} (h : k < L.length) (h2 : L.length < k + k) : sortB k L = sortL (L.take k) ++ sortL (L.drop k) ∧ sortB (k + k) L = sortL (sortL (L.take k) ++ sortL (L.drop k)) := by
 constructor
 ·rw [sortB_step hk (by omega), sortB_small (L := L.drop k) (by rw [List.length_drop]; omega)]
 ·rw [sortB_small (by omega), sortL_both, List.take_append_drop]
theorem OrdOk.part {k : Nat} (hk : 0 < k) {R A : List El} {a : Nat} (ho : OrdOk R) (h : A ++ sortB k (R.drop a) = sortB k R) : OrdOk (A ++ R.drop a) := fun z hz => by
 rcases List.mem_append.1 hz with hz | hz
 ·exact ho z ((sortB_mem hk _ R (Nat.le_refl _)).1 (by rw [← h]; simp [hz]))
 ·exact ho z (List.mem_of_mem_drop hz)
theorem OrdOk.same {A B C : List El} (h : OrdOk (A ++ B)) (e : ∀ z, z ∈ C ↔ z ∈ B) : OrdOk (A ++ C) := fun z hz => by
 rcases List.mem_append.1 hz with hz | hz
 ·exact h z (by simp [hz])
 ·exact h z (by simp [(e z).1 hz])
set_option maxRecDepth 100000 in
set_option maxHeartbeats 8000000 in
theorem c_stable (g : Nat) (pre post : List Value) (R : List El) (n cap : Nat) (w : World) (h : Arr w g pre R post) (hn : n = R.length) (hl : n ≤ 1000000000) (ho : OrdOk R) :
  Calls Tryz.prog 119 #[.slice (some ⟨g, pre.length, none⟩) n cap, .int .i64 (n : Nat), .func (.func 90) #[] #[]] w fun e w' => e = .returned (.tuple #[]) ∧ Arr w' g pre (sortL R) post ∧ w.grownBy w' (some g) := by
 have HH := Lib.hid (And.intro hn ho)
 have hnI : ((n : Nat) : Int) ≤ 1000000000 := by omega
 clear hn ho
 go_enter Tryz.func119, Tryz.ntmps119
 go_wp2_with fail
 go_loopw [7, 8] (fun av bv W => ∃ (a b : Nat) (A : List El), av = .int .i64 (a : Nat) ∧ bv = .int .i64 (b : Nat) ∧ Hid (b = a + 20 ∧ a ≤ n ∧ A.length = a ∧ A ++ sortB 20 (R.drop a) = sortB 20 R) ∧ Arr W g pre (A ++ R.drop a) post ∧ w.grownBy W (some g)) (fun av _ _ => n - (intOf av).toNat)
 case atStart => exact ⟨0, 20, [], rfl, rfl, Lib.hid ⟨rfl, by omega, rfl, by simp⟩, by simpa using h, World.grownBy.refl _ _⟩
 case round =>
  clear h
  obtain ⟨a, b, A, rfl, rfl, hab, hA, hg⟩ := hrel
  have hb9 : ((b : Nat) : Int) ≤ 2000000000 := by have := hab.out; omega
  by_cases hlt : b ≤ n
  ·have hltI : ((b : Nat) : Int) ≤ (n : Nat) := by omega
   have HA := Lib.hid (And.intro hA hg)
   have HLT := Lib.hid hlt
   clear hA hg hlt
   go_wp2_with fail
   have hh := HH.out
   have h2 := hab.out
   have h3 := HLT.out
   refine (c_insert g pre post _ (A ++ sortL ((R.drop a).take 20) ++ R.drop b) A ((R.drop a).take 20) (R.drop b) a b n cap wr HA.out.1 (by rw [h2.1, ← List.drop_drop, List.append_assoc, List.take_append_drop]) rfl h2.2.2.1.symm (by rw [List.length_take, List.length_drop]; omega) (by rw [List.length_append, List.length_drop]; omega) hl (OrdOk.part (by omega) hh.2 h2.2.2.2)).mono ?_
   rintro ev w2 ⟨rfl, hA2, hg2⟩
   have HA2 := Lib.hid (And.intro hA2 (HA.out.2.trans hg2))
   clear hA2 hg2 hh h2 h3
   go_wp2_with fail
   go_roundw
   case rel =>
    have h2 := hab.out
    have h3 := HLT.out
    have hh := HH.out
    refine ⟨b, b + 20, A ++ sortL ((R.drop a).take 20), rfl, by simp, Lib.hid ⟨rfl, h3, by rw [List.length_append, sortL_len, List.length_take, List.length_drop]; omega, ?_⟩, HA2.out.1, HA2.out.2⟩
    rw [← h2.2.2.2, sortB_step (L := R.drop a) (by omega) (by rw [List.length_drop]; omega), List.drop_drop, ← h2.1, List.append_assoc]
   case measure => have := HLT.out; have := hab.out; simp [intOf]; omega
  ·have hltI : ¬ ((b : Nat) : Int) ≤ (n : Nat) := by omega
   have HA := Lib.hid (And.intro hA hg)
   have HLT := Lib.hid hlt
   clear hA hg hlt
   go_wp2_with fail
   have hh := HH.out
   have h2 := hab.out
   have h3 := HLT.out
   refine (c_insert g pre post _ (sortB 20 R) A (R.drop a) [] a n n cap wr HA.out.1 (by simp) (by rw [← h2.2.2.2, sortB_small (by rw [List.length_drop]; omega)]; simp) h2.2.2.1.symm (by rw [List.length_drop]; omega) (by rw [List.length_append, List.length_drop]; omega) hl (OrdOk.part (by omega) hh.2 h2.2.2.2)).mono ?_
   rintro ev w2 ⟨rfl, hA2, hg2⟩
   have HA2 := Lib.hid (And.intro hA2 (HA.out.2.trans hg2))
   clear hA2 hg2 hh h2 h3 HA hltI hb9 HLT
   go_wp2_with fail
   go_loopw [6, 7, 8, 9] (fun kv _ _ _ W => ∃ k : Nat, kv = .int .i64 (k : Nat) ∧ Hid (0 < k ∧ k ≤ 2 * n + 20) ∧ Arr W g pre (sortB k R) post ∧ w.grownBy W (some g)) (fun kv _ _ _ _ => n - (intOf kv).toNat)
   case atStart => exact ⟨20, rfl, Lib.hid ⟨by omega, by omega⟩, HA2.out⟩
   case round =>
    clear HA2
    obtain ⟨k, rfl, hk, hA, hg⟩ := hrel
    by_cases hkn : k < n
    ·have hkI : ((k : Nat) : Int) < (n : Nat) := by omega
     have HA := Lib.hid (And.intro hA hg)
     have HKN := Lib.hid hkn
     clear hA hg hkn
     go_wp2_with fail
     obtain ⟨Wo, rfl⟩ : ∃ Wo, Wo = wr := ⟨wr, rfl⟩
     go_loopw [7, 8] (fun av bv W => ∃ (a b : Nat) (A : List El), av = .int .i64 (a : Nat) ∧ bv = .int .i64 (b : Nat) ∧ Hid (b = a + (k + k) ∧ a ≤ n ∧ A.length = a ∧ A ++ sortB (k + k) (R.drop a) = sortB (k + k) R) ∧ Arr W g pre (A ++ sortB k (R.drop a)) post ∧ w.grownBy W (some g)) (fun av _ _ => n - (intOf av).toNat)
     case atStart => exact ⟨0, 2 * k, [], rfl, by simp, Lib.hid ⟨by omega, by omega, rfl, by simp⟩, by simpa using HA.out.1, HA.out.2⟩
     case round =>
      clear HA
      obtain ⟨a, b, A, rfl, rfl, hab, hA, hg⟩ := hrel
      have hb9 : ((b : Nat) : Int) ≤ 4000000000 := by have := hab.out; have := HKN.out; omega
      have hk9 : ((k : Nat) : Int) ≤ 1000000000 := by have := HKN.out; omega
      have ha9 : ((a : Nat) : Int) ≤ 1000000000 := by have := hab.out; omega
      by_cases hlt : b ≤ n
      ·have hltI : ((b : Nat) : Int) ≤ (n : Nat) := by omega
       have HA := Lib.hid (And.intro hA hg)
       have HLT := Lib.hid hlt
       have HAK := Lib.hid (show ((a : Nat) : Int) + (k : Nat) = ((a + k : Nat) : Nat) by omega)
       clear hA hg hlt
       go_wp2_with fail
       rw [HAK.out]
       have hh := HH.out
       have h2 := hab.out
       have h3 := HLT.out
       have h4 := HKN.out
       have h5 := hk.out
       have hlen : k + k ≤ (R.drop a).length := by rw [List.length_drop]; omega
       obtain ⟨e1, e2⟩ := sortB_two h5.1 hlen
       have hA := HA.out.1
       have ho := OrdOk.same (OrdOk.part (by omega) hh.2 h2.2.2.2) (C := sortB k (R.drop a)) (fun z => sortB_mem h5.1 _ _ (Nat.le_refl _))
       have hsl := sortB_len h5.1 _ (R.drop a) (Nat.le_refl _)
       rw [e1] at hA ho hsl
       have hX : (sortL ((R.drop a).take k)).length = k := by rw [sortL_len, List.length_take]; omega
       have hY : (sortL (((R.drop a).drop k).take k)).length = k := by rw [sortL_len, List.length_take, List.length_drop]; omega
       have hpos : ∀ y ∈ R.drop a, 0 < y.ord := fun y hy => (hh.2 y (List.mem_of_mem_drop hy)).1
       refine (c_symMerge g pre post n cap hl (k + k) _ (A ++ (sortL (sortL ((R.drop a).take k) ++ sortL (((R.drop a).drop k).take k)) ++ sortB k ((R.drop a).drop (k + k)))) A (sortL ((R.drop a).take k)) (sortL (((R.drop a).drop k).take k)) (sortB k ((R.drop a).drop (k + k))) a (a + k) b wr (by omega) hA rfl rfl h2.2.2.1.symm (by omega) (by omega) (by omega) (by omega) (by rw [List.length_append, hsl, List.length_drop]; omega) (sortL_up fun y hy => hpos y (List.mem_of_mem_take hy)) (sortL_up fun y hy => hpos y (List.mem_of_mem_drop (List.mem_of_mem_take hy))) ho).mono ?_
       rintro ev w3 ⟨rfl, hA2, hg2⟩
       have HA2 := Lib.hid (And.intro hA2 (HA.out.2.trans hg2))
       have HE2 := Lib.hid e2
       clear hA2 hg2 hh h2 h3 h4 h5 hlen e1 e2 hA ho hsl hX hY hpos
       go_wp2_with fail
       go_roundw
       case rel =>
        have h2 := hab.out
        have h3 := HLT.out
        have hh := HH.out
        have hd : (R.drop a).drop (k + k) = R.drop b := by rw [List.drop_drop, ← h2.1]
        refine ⟨b, b + 2 * k, A ++ sortL (sortL ((R.drop a).take k) ++ sortL (((R.drop a).drop k).take k)), rfl, by simp, Lib.hid ⟨by omega, h3, ?_, ?_⟩, ?_, HA2.out.2⟩
        ·simp only [List.length_append, sortL_len, List.length_take, List.length_drop]; omega
        ·rw [← h2.2.2.2, HE2.out, ← hd, List.append_assoc]
        ·have h := HA2.out.1
         rw [hd, ← List.append_assoc] at h
         exact h
       case measure => have := HLT.out; have := hab.out; have := hk.out; simp [intOf]; omega
      ·have hltI : ¬ ((b : Nat) : Int) ≤ (n : Nat) := by omega
       have HA := Lib.hid (And.intro hA hg)
       have HLT := Lib.hid hlt
       have HAK := Lib.hid (show ((a : Nat) : Int) + (k : Nat) = ((a + k : Nat) : Nat) by omega)
       clear hA hg hlt
       by_cases hm : a + k < n
       ·have hmI : ((a : Nat) : Int) + (k : Nat) < (n : Nat) := by omega
        have HM := Lib.hid hm
        clear hm
        go_wp2_with fail
        rw [HAK.out]
        have hh := HH.out
        have h2 := hab.out
        have h3 := HLT.out
        have h4 := HM.out
        have h5 := hk.out
        have hlen : k < (R.drop a).length := by rw [List.length_drop]; omega
        obtain ⟨e1, e2⟩ := sortB_last h5.1 hlen (by rw [List.length_drop]; omega)
        have hA := HA.out.1
        have ho := OrdOk.same (OrdOk.part (by omega) hh.2 h2.2.2.2) (C := sortB k (R.drop a)) (fun z => sortB_mem h5.1 _ _ (Nat.le_refl _))
        rw [e1] at hA ho
        have hX : (sortL ((R.drop a).take k)).length = k := by rw [sortL_len, List.length_take]; omega
        have hY : (sortL ((R.drop a).drop k)).length = n - a - k := by rw [sortL_len, List.length_drop, List.length_drop]; omega
        have hpos : ∀ y ∈ R.drop a, 0 < y.ord := fun y hy => (hh.2 y (List.mem_of_mem_drop hy)).1
        have hA' : Arr wr g pre (A ++ (sortL ((R.drop a).take k) ++ (sortL ((R.drop a).drop k) ++ []))) post := by simpa using hA
        refine (c_symMerge g pre post n cap hl (n - a) _ (A ++ (sortL (sortL ((R.drop a).take k) ++ sortL ((R.drop a).drop k)) ++ [])) A (sortL ((R.drop a).take k)) (sortL ((R.drop a).drop k)) [] a (a + k) n wr (by omega) hA' rfl rfl h2.2.2.1.symm (by omega) (by omega) (by omega) (by omega) (by simp only [List.length_append, List.length_nil]; omega) (sortL_up fun y hy => hpos y (List.mem_of_mem_take hy)) (sortL_up fun y hy => hpos y (List.mem_of_mem_drop hy)) (by simpa using ho)).mono ?_
        rintro ev w3 ⟨rfl, hA2, hg2⟩
        have HA2 := Lib.hid (show Arr w3 g pre (sortB (k + k) R) post ∧ w.grownBy w3 (some g) by
         refine ⟨?_, HA.out.2.trans hg2⟩
         rw [← h2.2.2.2, e2]
         simpa using hA2)
        clear hA2 hg2 hh h2 h3 h4 h5 hlen e1 e2 hA ho hX hY hpos hA'
        go_wp2_with fail
        go_roundw
        case rel => exact ⟨k + k, by simp; omega, Lib.hid ⟨by have := hk.out; omega, by have := HKN.out; omega⟩, HA2.out⟩
        case measure => have := HKN.out; have := hk.out; simp [intOf]; omega
       ·have hmI : ¬ ((a : Nat) : Int) + (k : Nat) < (n : Nat) := by omega
        have HA2 := Lib.hid (show Arr wr g pre (sortB (k + k) R) post ∧ w.grownBy wr (some g) by
         refine ⟨?_, HA.out.2⟩
         have h2 := hab.out
         have hh := HH.out
         have hA := HA.out.1
         rw [sortB_small (by rw [List.length_drop]; omega)] at hA
         rw [← h2.2.2.2, sortB_small (L := R.drop a) (by rw [List.length_drop]; omega)]
         exact hA)
        clear hm HA
        go_wp2_with fail
        go_roundw
        case rel => exact ⟨k + k, by simp; omega, Lib.hid ⟨by have := hk.out; omega, by have := HKN.out; omega⟩, HA2.out⟩
        case measure => have := HKN.out; have := hk.out; simp [intOf]; omega
    ·have hkI : ¬ ((k : Nat) : Int) < (n : Nat) := by omega
     have HE := Lib.hid (show Arr wr g pre (sortL R) post ∧ w.grownBy wr (some g) by
      rw [← sortB_small (k := k) (L := R) (by have := HH.out.1; omega)]
      exact ⟨hA, hg⟩)
     clear hA hg hkn
     go_wp2_with fail
     refine bodyPost_end (results_none rfl _ _ _) rfl ?_
     exact ⟨rfl, HE.out⟩
end Go.Proofs.YtokeamebcdhnpaaGreatDoor
end

section
namespace Go.Proofs.YtokeamebcdhnpaaGreatDoor
open Go.RowKit Go.Rp Go.Shelf Go.Maps Go.Nm

theorem els_ord {k : Bool} {l : List (Int × Bool)} {x : El} (h : x ∈ tbT.els k l) : 0 ≤ x.ord ∧ x.ord < 256 := by
 obtain ⟨y, hy, hx⟩ := List.mem_flatMap.1 h
 split at hx
 ·simp at hx; subst hx; simp
 ·obtain ⟨r, hr, rfl⟩ := List.mem_map.1 hx
  exact odT_range r
theorem own_down {W : World} {a b : Nat} {e : TypeId} {size : Nat} {v : Value} {k : Nat} {xs : List Value} (h : a ≤ b) (ho : W.ownsRow b e size v k xs) : W.ownsRow a e size v k xs := by
 refine ⟨ho.1, ?_⟩
 rcases ho.2 with hn | ⟨g, cap, cur, hv, hb, rest⟩
 ·exact .inl hn
 ·exact .inr ⟨g, cap, cur, hv, Nat.le_trans h hb, rest⟩
/-- A row of elements as cells, and back. -/
theorem own_arr {W : World} {n₀ : Nat} {p : Option Addr} {cap : Nat} {L : List El} (h : W.ownsRow n₀ 146 3 (.slice p L.length cap) L.length (elCells L)) (hL : 0 < L.length) :
  L.length ≤ cap ∧ ∃ rest : List Value, (∀ g, p = some ⟨g, 0, none⟩ → Arr W g [] L rest) ∧ ∀ (W' : World) (n₁ g : Nat) (M : List El), n₁ ≤ g → M.length = L.length → Arr W' g [] M rest → W'.ownsRow n₁ 146 3 (.slice (some ⟨g, 0, none⟩) L.length cap) L.length (elCells M) := by
 rcases h.2 with ⟨e, h0⟩ | ⟨g, cap', cur, e, hg, hb, h1, h2, h3, h4⟩
 ·omega
 ·simp only [Value.slice.injEq] at e
  obtain ⟨rfl, -, rfl⟩ := e
  refine ⟨h1, cur.toList.drop (L.length * 3), fun g' e => ?_, fun W' n₁ g' M hn hM hA => ⟨by rw [elCells_length, hM], .inr ⟨g', cap, _, rfl, hn, hA, h1, h2, ?_, ?_⟩⟩⟩
  ·simp only [Option.some.injEq, Addr.mk.injEq, and_true] at e
   subst e
   unfold Arr
   rw [hb, List.nil_append, ← h4, List.take_append_drop]
  ·have := h3
   simp only [List.nil_append, List.size_toArray, List.length_append, elCells_length, hM, List.length_drop, Array.length_toList]
   omega
  ·simp only [List.nil_append]
   rw [← hM, ← elCells_length, List.take_left]
theorem Arr.part {W : World} {g : Nat} {P M D : List El} {rest : List Value} : Arr W g [] (P ++ (M ++ D)) rest ↔ Arr W g (elCells P) M (elCells D ++ rest) := by
 unfold Arr
 rw [elCells_append, elCells_append]
 simp only [List.nil_append, List.append_assoc]
set_option maxRecDepth 100000 in
set_option maxHeartbeats 2000000 in
theorem c_sortStable (g : Nat) (pre post : List Value) (R : List El) (n cap : Nat) (w : World) (h : Arr w g pre R post) (hn : n = R.length) (hl : n ≤ 1000000000) (ho : OrdOk R) :
  Calls Tryz.prog 89 #[.slice (some ⟨g, pre.length, none⟩) n cap, .func (.func 90) #[] #[]] w fun e w' => e = .returned (.tuple #[]) ∧ Arr w' g pre (sortL R) post ∧ w.grownBy w' (some g) := by
 have HH := Lib.hid (And.intro h (And.intro hn ho))
 clear h hn ho
 go_enter Tryz.func89, Tryz.ntmps89
 go_wp2_with fail
 refine (c_stable g pre post R n cap w HH.out.1 HH.out.2.1 hl HH.out.2.2).mono ?_
 rintro ev w2 ⟨rfl, hA2, hg2⟩
 have HA2 := Lib.hid (And.intro hA2 hg2)
 clear hA2 hg2
 go_wp2_with fail
 refine bodyPost_end (results_none rfl _ _ _) rfl ?_
 exact ⟨rfl, HA2.out⟩
set_option maxRecDepth 100000 in
set_option maxHeartbeats 8000000 in
theorem c_elements (nb tB : Nat) (s : ByteArray) (f : Int) (k : Bool) (hk : decide (f = 2 ∨ f = 3) = k) (w : World) (ht : NTab nb w tB) (hT : Tabs w) (hs : s.size ≤ 1000000) :
  Calls Tryz.prog 65 #[.pointer (some ⟨tB, 0, none⟩), .string s, .int .i64 f] w fun e w' => ∃ v, e = .returned v ∧ w'.ownsRow w.heap.size 146 3 v (tbT.E k s.data.toList).length (elCells (tbT.E k s.data.toList)) ∧ Ext w w' := by
 have HK := Lib.hid hk
 clear hk
 obtain ⟨i0, hi0, hz0, hz1, hz3⟩ := info_parts infoEl
 go_enter Tryz.func65, Tryz.ntmps65
 go_wp2_with fail
 obtain ⟨pb, hpb⟩ : ∃ pb, w.heap.size = pb := ⟨_, rfl⟩
 have HPB := Lib.hid hpb
 have hit0 := World.iter_heap w s 0
 have hx0 := (Ext.refl w).iter s 0
 have hsz0 : (w.iter s 0).heap.size = pb + 1 := by rw [← hpb]; show (w.alloc _).heap.size = _; rw [World.size_alloc]
 rw [hpb] at hit0 ⊢
 generalize w.iter s 0 = w0 at hit0 hx0 hsz0 ⊢
 have HX0 := Lib.hid (And.intro hx0 hsz0)
 clear hsz0 hpb
 go_loopw [7] (fun lv W => ∃ (pos : Nat) (L : List El), W.heap[pb]? = some (.stringIter s pos) ∧ pos ≤ s.size ∧ Hid (L.length ≤ 20 * pos ∧ L ++ tbT.els k (rawOf (s.data.toList.drop pos)) = tbT.els k (rawOf s.data.toList)) ∧ W.ownsRow (pb + 1) 146 3 lv L.length (elCells L) ∧ Ext w W) (fun _ W => s.size - W.iterPos pb)
 case atStart => exact ⟨0, [], hit0, by omega, Lib.hid ⟨by simp, by simp⟩, World.ownsRow_nil _ _ _ _, hx0⟩
 case round =>
  clear hit0 hx0
  obtain ⟨pos, L, hit, hp, hL, hrow, hx⟩ := hrel
  obtain ⟨po, capo, rfl⟩ := own_slice hrow
  have hpos := iterPos_of hit
  by_cases hlt : pos < s.size
  ·have hnx : ∀ ty, (Instr.next (.pointer (some ⟨pb, 0, none⟩)) true ty).run Tryz.prog wr = _ := fun ty => Lib.run_next_any_at wr pb s pos ty hit hlt
   have hpne : s.data.toList.drop pos ≠ [] := by
    intro e
    have := congrArg List.length e
    rw [List.length_drop, len_eq] at this
    simp at this
    omega
   have hdec := dec_at s pos
   have hst := hL.out.2
   rw [rawOf_step _ hpne, List.drop_drop] at hst
   have hw1 := wid_pos (s.data.toList.drop pos)
   have hw2 := wid_le _ hpne
   rw [List.length_drop, len_eq] at hw2
   have hrm := run_max (s.data.toList.drop pos)
   have hz : 0 < (s.extract pos s.size).size := by rw [ByteArray.size_extract]; omega
   have hl : (s.extract pos s.size).data.toList = s.data.toList.drop pos := by
    rw [toList_extract, take_all (by rw [List.length_drop, len_eq]; exact Nat.le_refl _)]
   have HD := Lib.hid (show ∀ w, Tabs w → Calls Tryz.prog 52 #[.string (s.extract pos s.size)] w fun e w' => e = .returned (.tuple #[.int .i32 (run (s.data.toList.drop pos) : Nat), .int .i64 (wid (s.data.toList.drop pos) : Nat)]) ∧ Ext w w' from fun w hT => by
    rw [← hl]; exact c_Decode _ w hT hz)
   obtain ⟨r, hr⟩ : ∃ r, run (s.data.toList.drop pos) = r := ⟨_, rfl⟩
   obtain ⟨n, hn⟩ : ∃ n, wid (s.data.toList.drop pos) = n := ⟨_, rfl⟩
   have hdn : Utf8.decode s pos = (r, n) := by rw [hdec, ← hr, ← hn]; rfl
   have hbyte : (s.data.toList.drop pos).getD 0 0 = s[pos] := by
    rw [List.getD_eq_getElem?_getD, List.getElem?_drop, Nat.add_zero, List.getElem?_eq_getElem (by rw [len_eq]; exact hlt)]
    rfl
   rw [hr, hn] at HD hst
   rw [hr] at hrm
   rw [hn] at hw1 hw2
   rw [hbyte] at hst
   have HST := Lib.hid hst
   have HLL := Lib.hid hL.out.1
   rw [hdn] at hnx
   have hrow1 := ownsRow_iterAt hrow (Nat.lt_succ_self pb) s (pos + n)
   have hx1 : Ext w (wr.iterAt pb s (pos + n)) := Lib.below_iterAt hx (Nat.le_of_eq HPB.out) s _
   have hit1 := Lib.iterAt_heap wr pb s pos (pos + n) hit
   simp only at hnx
   have HPOS := Lib.hid (And.intro hpos (And.intro hw1 (And.intro hw2 hrm)))
   have hposI : ((pos : Nat) : Int) ≤ (s.size : Nat) := by omega
   clear hdec hst hl hz hr hn hdn hbyte hL hrow hx hit hpos hpne hw1 hw2 hrm
   go_wp2_with fail
   refine (HD.out _ (hT.ext hx1)).mono ?_
   rintro e w2 ⟨rfl, hx2⟩
   have hx12 := Ext.trans hx1 hx2
   have hrow2 := ownsRow_ext hrow1 hx2
   have hit2 := hx2.blk hit1
   have hps := HPOS.out.2
   clear hx1 hx2 hrow1 hit1
   by_cases hbad : r = 65533 ∧ n = 1
   ·obtain ⟨rfl, rfl⟩ := hbad
    have HST2 := Lib.hid HST.out
    rw [if_pos ⟨rfl, rfl⟩] at HST2
    go_wp2_with (at_builtin; refine Hid.out ?_)
    refine Lib.hid ?_
    have hby : wrap32 ((s[pos].toNat : Nat) : Int) = ((s[pos].toNat : Nat) : Int) := wrap32_small (by omega) (by have := s[pos].toNat_lt; omega)
    rw [hby]
    obtain ⟨bz, hbz⟩ : ∃ bz : Int, ((s[pos].toNat : Nat) : Int) = bz := ⟨_, rfl⟩
    rw [hbz] at HST2 ⊢
    clear hby hbz
    have hx3 := hx12.alloc (.cells #[.int .i32 bz, .int .i64 0, .int .i64 1] 146)
    have hit3 := ((Ext.refl w2).alloc (.cells #[.int .i32 bz, .int .i64 0, .int .i64 1] 146)).blk hit2
    have hrow3 := ownsRow_ext hrow2 ((Ext.refl w2).alloc (.cells #[.int .i32 bz, .int .i64 0, .int .i64 1] 146))
    have hnew := cell3_new w2 (.int .i32 bz) (.int .i64 0) (.int .i64 1) 146
    generalize w2.alloc (.cells #[.int .i32 bz, .int .i64 0, .int .i64 1] 146) = w3 at hx3 hit3 hrow3 hnew ⊢
    have hlb := HLL.out
    have hszp := blk_lt hit3
    refine wpList_append_own _ rfl (.tmp 35) (.tmp 41) 116 rfl (pb + 1) 146 i0 (.agg #[.int .i32 0, .int .i64 0, .int .i64 0]) 3 24 Tryz.underlying116 hi0 hz0 hz1 hz3 rfl (by decide) _ L.length (elCells L) rfl hrow3 ⟨w2.heap.size, 0, none⟩ 1 1 [.int .i32 bz, .int .i64 0, .int .i64 1] rfl rfl hnew (by intro u hu; simp at hu; rcases hu with rfl | rfl | rfl <;> rfl) (by unfold maxLen; omega) (by omega) (by omega) ?_
    intro v' w4 hown4 hgrow4 _
    have hx4 : Ext w w4 := Below.grown hx3 hgrow4 hx3.sz (fun k e => by have := (hrow3.lt k e).1; have := HPB.out; omega)
    have hit4 := (hgrow4.block _ (blk_lt hit3) (fun e => by have := (hrow3.lt _ e.symm).1; omega)).trans hit3
    have hp4 := iterPos_of hit4
    have hcat : elCells L ++ [.int .i32 bz, .int .i64 0, .int .i64 1] = elCells (L ++ [(⟨bz, 0, true⟩ : El)]) := by rw [elCells_append]; rfl
    rw [hcat] at hown4
    have HO4 := Lib.hid hown4
    have HR4 := Lib.hid (And.intro hit4 (And.intro hx4 hp4))
    have hL4 := Lib.hid (show (L ++ [(⟨bz, 0, true⟩ : El)]).length ≤ 20 * (pos + 1) ∧ (L ++ [(⟨bz, 0, true⟩ : El)]) ++ tbT.els k (rawOf (s.data.toList.drop (pos + 1))) = tbT.els k (rawOf s.data.toList) by
     refine ⟨by simp; omega, ?_⟩
     rw [← HST2.out]
     simp [Tb.els])
    clear hgrow4 hown4 hx4 hit4 hp4 hrow3 hx3 hit3 hnew hlb hszp hrow2 hit2 hx12 hcat
    go_wp2_with fail
    go_roundw
    case rel => exact ⟨pos + 1, L ++ [(⟨bz, 0, true⟩ : El)], HR4.out.1, by omega, hL4, by rw [List.length_append]; exact HO4.out, HR4.out.2.1⟩
    case measure => rw [HR4.out.2.2, HPOS.out.1]; omega
   ·have HST2 := Lib.hid HST.out
    rw [if_neg hbad] at HST2
    obtain ⟨ri, hri⟩ : ∃ ri : Int, ((r : Nat) : Int) = ri := ⟨_, rfl⟩
    obtain ⟨wi, hwi⟩ : ∃ wi : Int, ((n : Nat) : Int) = wi := ⟨_, rfl⟩
    have hr2 : 0 ≤ ri ∧ ri < 16777216 := by omega
    have HRG := Lib.hid hr2
    have hbb : ¬ (ri = 65533 ∧ wi = 1) := by omega
    rw [hri] at HST2 ⊢
    rw [hwi]
    have HPS := Lib.hid hps
    clear hbad hri hwi hr2 hps
    by_cases h5 : wi = 1
    ·subst h5
     have h6 : (ri == 65533) = false := by simp; exact fun e => hbb ⟨e, rfl⟩
     clear hbb
     go_wp2_with fail
     refine (c_fallT nb tB f ri w2 HRG.out.1 HRG.out.2 (ht.ext hx12)).mono ?_
     rintro e w5 ⟨v5, rfl, hrow5, hx5⟩
     rw [HK.out] at hrow5
     have hlen5 := faT_len k ri
     have hrg5 := Lib.hid (fal_range goodTA goodTK 5 k ri HRG.out.1 HRG.out.2)
     obtain ⟨F, hF⟩ : ∃ F, faT k ri = F := ⟨_, rfl⟩
     rw [show fal apartT alsoT 5 k ri = faT k ri from rfl] at hrg5
     have HST3 := Lib.hid (show L ++ (F.map tbT.mk1 ++ tbT.els k (rawOf (s.data.toList.drop (pos + n)))) = tbT.els k (rawOf s.data.toList) by
      rw [← HST2.out, ← hF]
      simp [Tb.els, tbT])
     rw [hF] at hrow5 hlen5 hrg5
     obtain ⟨p5, cap5, rfl⟩ := own_slice hrow5
     obtain ⟨g5, rfl, hg50, hg51, _⟩ := own_at hrow5 hlen5.1
     have hx15 := Ext.trans hx12 hx5
     have hrowL := ownsRow_ext hrow2 hx5
     have hitL := hx5.blk hit2
     clear hF hx12 hx5 hrow2 hit2
     obtain ⟨Wo, rfl⟩ : ∃ Wo, Wo = wr := ⟨wr, rfl⟩
     go_wp2_with fail
     go_loopw [7, 48] (fun lv iv W => ∃ j : Nat, iv = .int .i64 (j : Nat) ∧ j ≤ F.length ∧ W.heap[pb]? = some (.stringIter s (pos + n)) ∧ W.ownsRow w2.heap.size 21 1 (.slice (some ⟨g5, 0, none⟩) F.length cap5) F.length (i32s F) ∧ W.ownsRow (pb + 1) 146 3 lv (L.length + j) (elCells (L ++ (F.take j).map tbT.mk1)) ∧ Ext w W) (fun _ iv _ => F.length + 1 - (intOf iv).toNat)
     case atStart => exact ⟨0, rfl, by omega, hitL, hrow5, by simpa using hrowL, hx15⟩
     case round =>
      clear hitL hrow5 hrowL hx15
      obtain ⟨j, rfl, hj, hitW, hrF, hrL, hxW⟩ := hrel
      obtain ⟨pl, capl, rfl⟩ := own_slice hrL
      by_cases hlt3 : j < F.length
      ·have hlI : ((j : Nat) : Int) < (F.length : Nat) := by omega
       have hd3 : decide (j < F.length) = true := decide_eq_true hlt3
       obtain ⟨x, hxj⟩ : ∃ x, F[j] = x := ⟨_, rfl⟩
       obtain ⟨_, e0, _, _, hgc⟩ := own_at hrF (by omega)
       cases e0
       have hc := (hgc j (by omega)).trans (show (i32s F)[j]? = some (.int .i32 x) by unfold i32s; rw [List.getElem?_map, List.getElem?_eq_getElem hlt3, hxj]; rfl)
       have hntW := Lib.hid (ht.ext hxW)
       have HXJ := Lib.hid hxj
       clear hgc hxj
       go_wp2_with fail
       refine (c_order nb tB x wr hntW.out).mono ?_
       rintro e w6 ⟨rfl, hx6⟩
       obtain ⟨oz, hoz⟩ : ∃ oz, odT x = oz := ⟨_, rfl⟩
       have HOZ := Lib.hid hoz
       rw [hoz]
       clear hoz hc
       have hx7 := (hxW.trans hx6).alloc (.cells #[.int .i32 x, .int .i64 oz, .int .i64 0] 146)
       have hy7 := hx6.alloc (.cells #[.int .i32 x, .int .i64 oz, .int .i64 0] 146)
       have hit7 := hy7.blk hitW
       have hrF7 := ownsRow_ext hrF hy7
       have hrL7 := ownsRow_ext hrL hy7
       have hnew := cell3_new w6 (.int .i32 x) (.int .i64 oz) (.int .i64 0) 146
       clear hxW hx6 hy7 hitW hrF hrL
       go_wp2_with (at_builtin; refine Hid.out ?_)
       refine Lib.hid ?_
       generalize w6.alloc (.cells #[.int .i32 x, .int .i64 oz, .int .i64 0] 146) = w7 at hx7 hit7 hrF7 hrL7 hnew ⊢
       have hlb := HLL.out
       have hszp := blk_lt hit7
       have hp7 := HPS.out
       refine wpList_append_own _ rfl (.tmp 52) (.tmp 58) 116 rfl (pb + 1) 146 i0 (.agg #[.int .i32 0, .int .i64 0, .int .i64 0]) 3 24 Tryz.underlying116 hi0 hz0 hz1 hz3 rfl (by decide) _ (L.length + j) (elCells (L ++ (F.take j).map tbT.mk1)) rfl hrL7 ⟨w6.heap.size, 0, none⟩ 1 1 [.int .i32 x, .int .i64 oz, .int .i64 0] rfl rfl hnew (by intro u hu; simp at hu; rcases hu with rfl | rfl | rfl <;> rfl) (by unfold maxLen; omega) (by omega) (by omega) ?_
       intro v' w8 hown8 hgrow8 _
       have hx8 : Ext w w8 := Below.grown hx7 hgrow8 hx7.sz (fun k e => by have := (hrL7.lt k e).1; have := HPB.out; omega)
       have hit8 := (hgrow8.block _ (blk_lt hit7) (fun e => by have := (hrL7.lt _ e.symm).1; omega)).trans hit7
       have hrF8 := hrF7.kept hgrow8 (row_ne hrF7 hrL7 (by decide))
       have hcat : elCells (L ++ (F.take j).map tbT.mk1) ++ [.int .i32 x, .int .i64 oz, .int .i64 0] = elCells (L ++ (F.take (j + 1)).map tbT.mk1) := by
        rw [List.take_add_one, List.getElem?_eq_getElem hlt3, HXJ.out, ← HOZ.out]
        simp [elCells, elV, Tb.mk1, tbT]
       rw [hcat] at hown8
       have HO8 := Lib.hid hown8
       have HR8 := Lib.hid (And.intro hit8 (And.intro hx8 hrF8))
       clear hgrow8 hown8 hx8 hit8 hrF8 hrL7 hrF7 hx7 hit7 hnew hlb hszp hp7 hcat
       go_wp2_with fail
       go_roundw
       case rel => exact ⟨j + 1, by simp, by omega, HR8.out.1, HR8.out.2.2, HO8.out, HR8.out.2.1⟩
       case measure => simp [intOf]; omega
      ·have hd3 : decide (j < F.length) = false := decide_eq_false hlt3
       obtain rfl : j = F.length := by omega
       rw [List.take_length] at hrL
       have hp8 := iterPos_of hitW
       have HR8 := Lib.hid (And.intro hitW (And.intro hxW hp8))
       have HO8 := Lib.hid hrL
       have hps := HPS.out
       have hL4 := Lib.hid (show (L ++ F.map tbT.mk1).length ≤ 20 * (pos + n) ∧ (L ++ F.map tbT.mk1) ++ tbT.els k (rawOf (s.data.toList.drop (pos + n))) = tbT.els k (rawOf s.data.toList) by
        refine ⟨by have := HLL.out; simp only [List.length_append, List.length_map]; omega, ?_⟩
        rw [← HST3.out, List.append_assoc])
       clear hitW hxW hp8 hrL hrF
       go_wp2_with fail
       go_roundw
       case rel => exact ⟨pos + n, L ++ F.map tbT.mk1, HR8.out.1, by omega, hL4, by rw [List.length_append, List.length_map]; exact HO8.out, HR8.out.2.1⟩
       case measure => rw [HR8.out.2.2, HPOS.out.1]; omega
    ·have h6 : (wi == 1) = false := by simpa using h5
     clear hbb h5
     go_wp2_with fail
     refine (c_fallT nb tB f ri w2 HRG.out.1 HRG.out.2 (ht.ext hx12)).mono ?_
     rintro e w5 ⟨v5, rfl, hrow5, hx5⟩
     rw [HK.out] at hrow5
     have hlen5 := faT_len k ri
     have hrg5 := Lib.hid (fal_range goodTA goodTK 5 k ri HRG.out.1 HRG.out.2)
     obtain ⟨F, hF⟩ : ∃ F, faT k ri = F := ⟨_, rfl⟩
     rw [show fal apartT alsoT 5 k ri = faT k ri from rfl] at hrg5
     have HST3 := Lib.hid (show L ++ (F.map tbT.mk1 ++ tbT.els k (rawOf (s.data.toList.drop (pos + n)))) = tbT.els k (rawOf s.data.toList) by
      rw [← HST2.out, ← hF]
      simp [Tb.els, tbT])
     rw [hF] at hrow5 hlen5 hrg5
     obtain ⟨p5, cap5, rfl⟩ := own_slice hrow5
     obtain ⟨g5, rfl, hg50, hg51, _⟩ := own_at hrow5 hlen5.1
     have hx15 := Ext.trans hx12 hx5
     have hrowL := ownsRow_ext hrow2 hx5
     have hitL := hx5.blk hit2
     clear hF hx12 hx5 hrow2 hit2
     obtain ⟨Wo, rfl⟩ : ∃ Wo, Wo = wr := ⟨wr, rfl⟩
     go_wp2_with fail
     go_loopw [7, 48] (fun lv iv W => ∃ j : Nat, iv = .int .i64 (j : Nat) ∧ j ≤ F.length ∧ W.heap[pb]? = some (.stringIter s (pos + n)) ∧ W.ownsRow w2.heap.size 21 1 (.slice (some ⟨g5, 0, none⟩) F.length cap5) F.length (i32s F) ∧ W.ownsRow (pb + 1) 146 3 lv (L.length + j) (elCells (L ++ (F.take j).map tbT.mk1)) ∧ Ext w W) (fun _ iv _ => F.length + 1 - (intOf iv).toNat)
     case atStart => exact ⟨0, rfl, by omega, hitL, hrow5, by simpa using hrowL, hx15⟩
     case round =>
      clear hitL hrow5 hrowL hx15
      obtain ⟨j, rfl, hj, hitW, hrF, hrL, hxW⟩ := hrel
      obtain ⟨pl, capl, rfl⟩ := own_slice hrL
      by_cases hlt3 : j < F.length
      ·have hlI : ((j : Nat) : Int) < (F.length : Nat) := by omega
       have hd3 : decide (j < F.length) = true := decide_eq_true hlt3
       obtain ⟨x, hxj⟩ : ∃ x, F[j] = x := ⟨_, rfl⟩
       obtain ⟨_, e0, _, _, hgc⟩ := own_at hrF (by omega)
       cases e0
       have hc := (hgc j (by omega)).trans (show (i32s F)[j]? = some (.int .i32 x) by unfold i32s; rw [List.getElem?_map, List.getElem?_eq_getElem hlt3, hxj]; rfl)
       have hntW := Lib.hid (ht.ext hxW)
       have HXJ := Lib.hid hxj
       clear hgc hxj
       go_wp2_with fail
       refine (c_order nb tB x wr hntW.out).mono ?_
       rintro e w6 ⟨rfl, hx6⟩
       obtain ⟨oz, hoz⟩ : ∃ oz, odT x = oz := ⟨_, rfl⟩
       have HOZ := Lib.hid hoz
       rw [hoz]
       clear hoz hc
       have hx7 := (hxW.trans hx6).alloc (.cells #[.int .i32 x, .int .i64 oz, .int .i64 0] 146)
       have hy7 := hx6.alloc (.cells #[.int .i32 x, .int .i64 oz, .int .i64 0] 146)
       have hit7 := hy7.blk hitW
       have hrF7 := ownsRow_ext hrF hy7
       have hrL7 := ownsRow_ext hrL hy7
       have hnew := cell3_new w6 (.int .i32 x) (.int .i64 oz) (.int .i64 0) 146
       clear hxW hx6 hy7 hitW hrF hrL
       go_wp2_with (at_builtin; refine Hid.out ?_)
       refine Lib.hid ?_
       generalize w6.alloc (.cells #[.int .i32 x, .int .i64 oz, .int .i64 0] 146) = w7 at hx7 hit7 hrF7 hrL7 hnew ⊢
       have hlb := HLL.out
       have hszp := blk_lt hit7
       have hp7 := HPS.out
       refine wpList_append_own _ rfl (.tmp 52) (.tmp 58) 116 rfl (pb + 1) 146 i0 (.agg #[.int .i32 0, .int .i64 0, .int .i64 0]) 3 24 Tryz.underlying116 hi0 hz0 hz1 hz3 rfl (by decide) _ (L.length + j) (elCells (L ++ (F.take j).map tbT.mk1)) rfl hrL7 ⟨w6.heap.size, 0, none⟩ 1 1 [.int .i32 x, .int .i64 oz, .int .i64 0] rfl rfl hnew (by intro u hu; simp at hu; rcases hu with rfl | rfl | rfl <;> rfl) (by unfold maxLen; omega) (by omega) (by omega) ?_
       intro v' w8 hown8 hgrow8 _
       have hx8 : Ext w w8 := Below.grown hx7 hgrow8 hx7.sz (fun k e => by have := (hrL7.lt k e).1; have := HPB.out; omega)
       have hit8 := (hgrow8.block _ (blk_lt hit7) (fun e => by have := (hrL7.lt _ e.symm).1; omega)).trans hit7
       have hrF8 := hrF7.kept hgrow8 (row_ne hrF7 hrL7 (by decide))
       have hcat : elCells (L ++ (F.take j).map tbT.mk1) ++ [.int .i32 x, .int .i64 oz, .int .i64 0] = elCells (L ++ (F.take (j + 1)).map tbT.mk1) := by
        rw [List.take_add_one, List.getElem?_eq_getElem hlt3, HXJ.out, ← HOZ.out]
        simp [elCells, elV, Tb.mk1, tbT]
       rw [hcat] at hown8
       have HO8 := Lib.hid hown8
       have HR8 := Lib.hid (And.intro hit8 (And.intro hx8 hrF8))
       clear hgrow8 hown8 hx8 hit8 hrF8 hrL7 hrF7 hx7 hit7 hnew hlb hszp hp7 hcat
       go_wp2_with fail
       go_roundw
       case rel => exact ⟨j + 1, by simp, by omega, HR8.out.1, HR8.out.2.2, HO8.out, HR8.out.2.1⟩
       case measure => simp [intOf]; omega
      ·have hd3 : decide (j < F.length) = false := decide_eq_false hlt3
       obtain rfl : j = F.length := by omega
       rw [List.take_length] at hrL
       have hp8 := iterPos_of hitW
       have HR8 := Lib.hid (And.intro hitW (And.intro hxW hp8))
       have HO8 := Lib.hid hrL
       have hps := HPS.out
       have hL4 := Lib.hid (show (L ++ F.map tbT.mk1).length ≤ 20 * (pos + n) ∧ (L ++ F.map tbT.mk1) ++ tbT.els k (rawOf (s.data.toList.drop (pos + n))) = tbT.els k (rawOf s.data.toList) by
        refine ⟨by have := HLL.out; simp only [List.length_append, List.length_map]; omega, ?_⟩
        rw [← HST3.out, List.append_assoc])
       clear hitW hxW hp8 hrL hrF
       go_wp2_with fail
       go_roundw
       case rel => exact ⟨pos + n, L ++ F.map tbT.mk1, HR8.out.1, by omega, hL4, by rw [List.length_append, List.length_map]; exact HO8.out, HR8.out.2.1⟩
       case measure => rw [HR8.out.2.2, HPOS.out.1]; omega
  ·have hlast : ∀ ty, (Instr.next (.pointer (some ⟨pb, 0, none⟩)) true ty).run Tryz.prog wr = _ := fun ty => Lib.run_next_end_at wr pb s pos ty hit hlt
   have hL2 := Lib.hid (show L = tbT.els k (rawOf s.data.toList) ∧ L.length ≤ 20000000 by
    have h := hL.out
    have he : s.data.toList.drop pos = [] := by rw [List.drop_eq_nil_iff, len_eq]; omega
    rw [he] at h
    refine ⟨by simpa [rawOf, raw, Tb.els] using h.2, by omega⟩)
   have HR := Lib.hid (And.intro hrow hx)
   clear hL hrow hx hpos
   rcases Nat.eq_zero_or_pos L.length with hL0 | hL0
   ·obtain rfl : L = [] := List.length_eq_zero_iff.1 hL0
    have HE := Lib.hid (show wr.ownsRow (pb + 1) 146 3 (.slice po 0 capo) (tbT.E k s.data.toList).length (elCells (tbT.E k s.data.toList)) by
     have : tbT.E k s.data.toList = [] := by unfold Tb.E; rw [← hL2.out.1]; rfl
     rw [this]
     exact HR.out.1)
    go_wp2_with fail
    go_loopw [14] (fun iv W => iv = .int .i64 0 ∧ W = wr) (fun _ _ => 0)
    case atStart => exact ⟨rfl, rfl⟩
    case round =>
     obtain ⟨rfl, rfl⟩ := hrel
     go_wp2_with fail
     go_ret
     exact ⟨_, rfl, own_down (Nat.le_succ_of_le (Nat.le_of_eq HPB.out)) HE.out, HR.out.2⟩
   ·obtain ⟨hcap, rest, HA0, HC⟩ := own_arr HR.out.1 hL0
    obtain ⟨g, rfl, hg0, hg1, _⟩ := own_at HR.out.1 hL0
    have HA := Lib.hid (HA0 g rfl)
    have HG := Lib.hid hg0
    have hL9 : (L.length : Int) ≤ 20000000 := by have := hL2.out.2; omega
    clear HA0 hg0 hg1
    go_wp2_with fail
    clear hit hlast
    go_loopw [14] (fun iv W => ∃ (fr : Nat) (P : List El), iv = .int .i64 (fr : Nat) ∧ Hid (fr ≤ L.length + 1 ∧ sortL L = P ++ sortL (L.drop fr) ∧ (fr ≤ L.length → P.length = fr)) ∧ Arr W g [] (P ++ L.drop fr) rest ∧ Ext w W) (fun iv _ => L.length + 1 - (intOf iv).toNat)
    case atStart => exact ⟨0, [], rfl, Lib.hid ⟨by omega, by simp, fun _ => rfl⟩, by simpa using HA.out, HR.out.2⟩
    case round =>
     clear HA
     obtain ⟨fr, P, rfl, hfr, hA, hx⟩ := hrel
     by_cases hlt2 : fr < L.length
     ·have hlI : ((fr : Nat) : Int) < (L.length : Nat) := by omega
      have hd3 : decide (fr < L.length) = true := decide_eq_true hlt2
      have HLT := Lib.hid hlt2
      clear hlt2
      obtain ⟨Wo, rfl⟩ : ∃ Wo, Wo = wr := ⟨wr, rfl⟩
      go_wp2_with fail
      go_loopw [15] (fun tv W => ∃ to' : Nat, tv = .int .i64 (to' : Nat) ∧ Hid (fr ≤ to' ∧ to' ≤ L.length ∧ ∀ x ∈ (L.drop fr).take (to' - fr), 0 < x.ord) ∧ Arr W g [] (P ++ L.drop fr) rest ∧ Ext w W) (fun tv _ => L.length - (intOf tv).toNat)
      case atStart => exact ⟨fr, rfl, Lib.hid ⟨by omega, by have := HLT.out; omega, by simp⟩, hA, hx⟩
      case round =>
       clear hA hx
       obtain ⟨q, rfl, hq, hA, hx⟩ := hrel
       by_cases hlt3 : q < L.length
       ·have hlI3 : ((q : Nat) : Int) < (L.length : Nat) := by omega
        have hd4 : decide (q < L.length) = true := decide_eq_true hlt3
        obtain ⟨x, hx0⟩ : ∃ x, L[q] = x := ⟨_, rfl⟩
        have hqi : q < (P ++ L.drop fr).length := by
         have h1 := hfr.out.2.2 (by have := HLT.out; omega)
         rw [List.length_append, List.length_drop]; omega
        have hqx : (P ++ L.drop fr)[q] = x := by
         have h1 := hfr.out.2.2 (by have := HLT.out; omega)
         have h2 := hq.out.1
         rw [List.getElem_append_right (by omega), List.getElem_drop, ← hx0]
         congr 1
         omega
        have c1 := (hA.get hqi).2.1
        rw [hqx] at c1
        simp only [List.length_nil, Nat.zero_add] at c1
        have HQX := Lib.hid (show L[q]? = some x by rw [List.getElem?_eq_getElem hlt3, hx0])
        have HXO := Lib.hid (show 0 ≤ x.ord ∧ x.ord < 256 from els_ord (k := k) (l := rawOf s.data.toList) (by rw [← hL2.out.1, ← hx0]; exact List.getElem_mem hlt3))
        obtain ⟨xo, hxo⟩ : ∃ xo, x.ord = xo := ⟨_, rfl⟩
        rw [hxo] at c1 HXO
        have HXE := Lib.hid hxo
        clear hx0 hqi hqx hxo
        by_cases hpo : 0 < xo
        ·go_wp2_with fail
         go_roundw
         case rel =>
          refine ⟨q + 1, by simp, Lib.hid ⟨by have := hq.out; omega, hlt3, fun y hy => ?_⟩, hA, hx⟩
          have h1 := hq.out
          rw [show q + 1 - fr = (q - fr) + 1 by omega, List.take_add_one, List.getElem?_drop, show fr + (q - fr) = q by omega, HQX.out] at hy
          rcases List.mem_append.1 hy with hy | hy
          ·exact h1.2.2 y hy
          ·simp at hy; subst hy; rw [HXE.out]; exact hpo
         case measure => simp [intOf]; omega
        ·have HSTOP := Lib.hid (show L.drop q = x :: L.drop (q + 1) ∧ x.ord = 0 by
          have h1 := HXO.out
          have h2 := HXE.out
          have h3 := HQX.out
          refine ⟨?_, by omega⟩
          rw [List.getElem?_eq_getElem hlt3] at h3
          rw [← Option.some.inj h3]
          exact List.drop_eq_getElem_cons hlt3)
         obtain ⟨M, hM⟩ : ∃ M, (L.drop fr).take (q - fr) = M := ⟨_, rfl⟩
         have HM := Lib.hid (show L.drop fr = M ++ L.drop q ∧ M.length = q - fr ∧ OrdOk M by
          have h1 := hq.out
          have h3 := HLT.out
          refine ⟨?_, ?_, fun z hz => ?_⟩
          ·have e := List.take_append_drop (q - fr) (L.drop fr)
           rw [hM, List.drop_drop, show fr + (q - fr) = q by omega] at e
           exact e.symm
          ·rw [← hM, List.length_take, List.length_drop]; omega
          ·have h5 := els_ord (k := k) (l := rawOf s.data.toList) (x := z) (by
            rw [← hL2.out.1]
            rw [← hM] at hz
            exact List.mem_of_mem_drop (List.mem_of_mem_take hz))
           have h6 := h1.2.2 z (by rw [hM]; exact hz)
           omega)
         have hAM : Arr wr g (elCells P) M (elCells (L.drop q) ++ rest) := by
          rw [HM.out.1] at hA
          exact Arr.part.1 hA
         have HAM := Lib.hid (And.intro hAM hx)
         have hoff : (elCells P).length = fr * 3 := by rw [elCells_length, hfr.out.2.2 (by have := HLT.out; omega)]
         have hcs := c_sortStable g (elCells P) (elCells (L.drop q) ++ rest) M (q - fr) (capo - fr) wr hAM HM.out.2.1.symm (by have := hq.out; have := hL2.out; omega) HM.out.2.2
         rw [hoff] at hcs
         have HCS := Lib.hid hcs
         have hcf : ¬ capo = fr := by have := HLT.out; omega
         have hqc : ((q : Nat) : Int) ≤ (capo : Nat) := by have := hq.out; omega
         have hfq : ((fr : Nat) : Int) ≤ (q : Nat) := by have := hq.out; omega
         clear hM hAM hA hx hoff hcs
         go_wp2_with fail
         refine (HCS.out).mono ?_
         rintro ev w2 ⟨rfl, hA2, hg2⟩
         have HA2 := Lib.hid (show Arr w2 g [] (P ++ (sortL M ++ L.drop q)) rest ∧ Ext w w2 from
          ⟨Arr.part.2 hA2, Below.grown HAM.out.2 hg2 HAM.out.2.sz (fun j e => by have := HG.out; have := HPB.out; cases e; omega)⟩)
         clear hA2 hg2 HCS HAM
         go_wp2_with fail
         go_roundw
         case rel =>
          have h1 := hq.out
          have h2 := hfr.out
          have h3 := HLT.out
          have h4 := HSTOP.out
          refine ⟨q + 1, P ++ (sortL M ++ [x]), by simp, Lib.hid ⟨by omega, ?_, fun _ => ?_⟩, ?_, HA2.out.2⟩
          ·rw [h2.2.1, HM.out.1, h4.1, sortL_apart h4.2, sortL_zero h4.2]
           simp
          ·simp only [List.length_append, sortL_len, List.length_cons, List.length_nil]
           have := h2.2.2 (by omega)
           have := HM.out.2.1
           omega
          ·have h := HA2.out.1
           rw [h4.1] at h
           simpa using h
         case measure => have := hq.out; simp [intOf]; omega
       ·have HQL := Lib.hid (show q = L.length by have := hq.out; omega)
        have hlI3 : ¬ ((q : Nat) : Int) < (L.length : Nat) := by omega
        have hd4 : decide (q < L.length) = false := decide_eq_false hlt3
        have hq9 : ((q : Nat) : Int) ≤ 20000000 := by have := hq.out; have := hL2.out; omega
        obtain ⟨M, hM⟩ : ∃ M, (L.drop fr).take (q - fr) = M := ⟨_, rfl⟩
        have HM := Lib.hid (show L.drop fr = M ++ L.drop q ∧ M.length = q - fr ∧ OrdOk M by
         have h1 := hq.out
         have h3 := HLT.out
         refine ⟨?_, ?_, fun z hz => ?_⟩
         ·have e := List.take_append_drop (q - fr) (L.drop fr)
          rw [hM, List.drop_drop, show fr + (q - fr) = q by omega] at e
          exact e.symm
         ·rw [← hM, List.length_take, List.length_drop]; omega
         ·have h5 := els_ord (k := k) (l := rawOf s.data.toList) (x := z) (by
           rw [← hL2.out.1]
           rw [← hM] at hz
           exact List.mem_of_mem_drop (List.mem_of_mem_take hz))
          have h6 := h1.2.2 z (by rw [hM]; exact hz)
          omega)
        have hAM : Arr wr g (elCells P) M (elCells (L.drop q) ++ rest) := by
         rw [HM.out.1] at hA
         exact Arr.part.1 hA
        have HAM := Lib.hid (And.intro hAM hx)
        have hoff : (elCells P).length = fr * 3 := by rw [elCells_length, hfr.out.2.2 (by have := HLT.out; omega)]
        have hcs := c_sortStable g (elCells P) (elCells (L.drop q) ++ rest) M (q - fr) (capo - fr) wr hAM HM.out.2.1.symm (by have := hq.out; have := hL2.out; omega) HM.out.2.2
        rw [hoff] at hcs
        have HCS := Lib.hid hcs
        have hcf : ¬ capo = fr := by have := HLT.out; omega
        have hqc : ((q : Nat) : Int) ≤ (capo : Nat) := by have := hq.out; omega
        have hfq : ((fr : Nat) : Int) ≤ (q : Nat) := by have := hq.out; omega
        clear hM hAM hA hx hoff hcs
        go_wp2_with fail
        refine (HCS.out).mono ?_
        rintro ev w2 ⟨rfl, hA2, hg2⟩
        have HA2 := Lib.hid (show Arr w2 g [] (P ++ (sortL M ++ L.drop q)) rest ∧ Ext w w2 from
         ⟨Arr.part.2 hA2, Below.grown HAM.out.2 hg2 HAM.out.2.sz (fun j e => by have := HG.out; have := HPB.out; cases e; omega)⟩)
        clear hA2 hg2 HCS HAM
        go_wp2_with fail
        go_roundw
        case rel =>
         have h1 := hq.out
         have h2 := hfr.out
         have h3 := HLT.out
         have h4 := HQL.out
         have h5 : L.drop q = [] := List.drop_of_length_le (by omega)
         have h6 : L.drop (q + 1) = [] := List.drop_of_length_le (by omega)
         refine ⟨q + 1, P ++ sortL M, by simp, Lib.hid ⟨by omega, ?_, fun h => by omega⟩, ?_, HA2.out.2⟩
         ·rw [h2.2.1, HM.out.1, h5, h6]
          simp [sortL]
         ·have h := HA2.out.1
          rw [h5] at h
          rw [h6]
          simpa using h
        case measure => have := HLT.out; have := hq.out; simp [intOf]; omega
     ·have hlI : ¬ ((fr : Nat) : Int) < (L.length : Nat) := by omega
      have hd3 : decide (fr < L.length) = false := decide_eq_false hlt2
      have HE := Lib.hid (show wr.ownsRow (pb + 1) 146 3 (.slice (some ⟨g, 0, none⟩) L.length capo) (tbT.E k s.data.toList).length (elCells (tbT.E k s.data.toList)) by
       have hs : tbT.E k s.data.toList = sortL L := by unfold Tb.E; rw [← hL2.out.1]
       rw [List.drop_of_length_le (by omega), List.append_nil] at hA
       have h2 := hfr.out.2.1
       rw [List.drop_of_length_le (by omega)] at h2
       rw [hs, sortL_len]
       rw [show P = sortL L by rw [h2]; simp [sortL]] at hA
       exact HC _ _ _ _ HG.out (by rw [sortL_len]) hA)
      have HX := Lib.hid hx
      clear hA hx hlt2
      go_wp2_with fail
      go_ret
      exact ⟨_, rfl, own_down (Nat.le_succ_of_le (Nat.le_of_eq HPB.out)) HE.out, HX.out⟩
end Go.Proofs.YtokeamebcdhnpaaGreatDoor
end
