/-
  A row of elements sorted in place, stably.
-/
import Derived.Test.YteokfknkcbmigaaGreatDoorWalkP
namespace Go.Proofs.YteokfknkcbmigaaGreatDoor
open Go.RowKit Go.Rp Go.Shelf Go.Maps Go.Nm

/-- Each k elements sorted. -/
def sortB (k : Nat) (L : List El) : List El :=
  if h : L.length ≤ k ∨ k = 0 then sortL L else sortL (L.take k) ++ sortB k (L.drop k)
termination_by L.length
decreasing_by rw [List.length_drop]; omega
theorem sortB_small {k : Nat} {L : List El} (h : L.length ≤ k) : sortB k L = sortL L := by rw [sortB, dif_pos (.inl h)]
theorem sortB_step {k : Nat} {L : List El} (hk : 0 < k) (h : k ≤ L.length) : sortB k L = sortL (L.take k) ++ sortB k (L.drop k) := by
  by_cases h1 : L.length ≤ k
  · rw [sortB_small h1, List.take_of_length_le h1, List.drop_of_length_le h1, sortB_small (by simp)]
    simp [sortL]
  · rw [sortB, dif_neg (by omega)]
theorem sortB_len {k : Nat} (hk : 0 < k) : ∀ (n : Nat) (L : List El), L.length ≤ n → (sortB k L).length = L.length
  | 0, L, h => by rw [sortB_small (by omega), sortL_len]
  | n + 1, L, h => by
    by_cases h1 : L.length ≤ k
    · rw [sortB_small h1, sortL_len]
    · rw [sortB_step hk (by omega), List.length_append, sortL_len, sortB_len hk n (L.drop k) (by rw [List.length_drop]; omega), List.length_take, List.length_drop]
      omega
theorem sortB_mem {k : Nat} (hk : 0 < k) {x : El} : ∀ (n : Nat) (L : List El), L.length ≤ n → (x ∈ sortB k L ↔ x ∈ L)
  | 0, L, h => by rw [sortB_small (by omega), sortL_mem]
  | n + 1, L, h => by
    by_cases h1 : L.length ≤ k
    · rw [sortB_small h1, sortL_mem]
    · rw [sortB_step hk (by omega), List.mem_append, sortL_mem, sortB_mem hk n (L.drop k) (by rw [List.length_drop]; omega)]
      rw [← List.mem_append, List.take_append_drop]
theorem sortL_both (a b : List El) : sortL (sortL a ++ sortL b) = sortL (a ++ b) := by
  rw [sortL_back, sortL_front a (sortL_idem b)]
/-- Two blocks and what stands behind them. -/
theorem sortB_two {k : Nat} (hk : 0 < k) {L : List El} (h : k + k ≤ L.length) : sortB k L = sortL (L.take k) ++ (sortL ((L.drop k).take k) ++ sortB k (L.drop (k + k))) ∧ sortB (k + k) L = sortL (sortL (L.take k) ++ sortL ((L.drop k).take k)) ++ sortB (k + k) (L.drop (k + k)) := by
  constructor
  · rw [sortB_step hk (by omega), sortB_step hk (L := L.drop k) (by rw [List.length_drop]; omega), List.drop_drop]
  · rw [sortB_step (by omega) h, sortL_both]
    congr 2
    rw [List.take_add]
theorem sortB_last {k : Nat} (hk : 0 < k) {L : List El} (h : k < L.length) (h2 : L.length < k + k) : sortB k L = sortL (L.take k) ++ sortL (L.drop k) ∧ sortB (k + k) L = sortL (sortL (L.take k) ++ sortL (L.drop k)) := by
  constructor
  · rw [sortB_step hk (by omega), sortB_small (L := L.drop k) (by rw [List.length_drop]; omega)]
  · rw [sortB_small (by omega), sortL_both, List.take_append_drop]
theorem OrdOk.part {k : Nat} (hk : 0 < k) {R A : List El} {a : Nat} (ho : OrdOk R) (h : A ++ sortB k (R.drop a) = sortB k R) : OrdOk (A ++ R.drop a) := fun z hz => by
  rcases List.mem_append.1 hz with hz | hz
  · exact ho z ((sortB_mem hk _ R (Nat.le_refl _)).1 (by rw [← h]; simp [hz]))
  · exact ho z (List.mem_of_mem_drop hz)
theorem OrdOk.same {A B C : List El} (h : OrdOk (A ++ B)) (e : ∀ z, z ∈ C ↔ z ∈ B) : OrdOk (A ++ C) := fun z hz => by
  rcases List.mem_append.1 hz with hz | hz
  · exact h z (by simp [hz])
  · exact h z (by simp [(e z).1 hz])
set_option maxRecDepth 100000 in
set_option maxHeartbeats 8000000 in
theorem c_stable (g : Nat) (pre post : List Value) (R : List El) (n cap : Nat) (w : World) (h : Arr w g pre R post) (hn : n = R.length) (hl : n ≤ 1000000000) (ho : OrdOk R) :
    Calls Tryz.prog 95 #[.slice (some ⟨g, pre.length, none⟩) n cap, .int .i64 (n : Nat), .func (.func 78) #[] #[]] w fun e w' => e = .returned (.tuple #[]) ∧ Arr w' g pre (sortL R) post ∧ w.grownBy w' (some g) := by
  have HH := Lib.hid (And.intro hn ho)
  have hnI : ((n : Nat) : Int) ≤ 1000000000 := by omega
  clear hn ho
  go_enter Tryz.func95, Tryz.ntmps95
  go_wp2_with fail
  go_loopw [7, 8] (fun av bv W => ∃ (a b : Nat) (A : List El), av = .int .i64 (a : Nat) ∧ bv = .int .i64 (b : Nat) ∧ Hid (b = a + 20 ∧ a ≤ n ∧ A.length = a ∧ A ++ sortB 20 (R.drop a) = sortB 20 R) ∧ Arr W g pre (A ++ R.drop a) post ∧ w.grownBy W (some g)) (fun av _ _ => n - (intOf av).toNat)
  case atStart => exact ⟨0, 20, [], rfl, rfl, Lib.hid ⟨rfl, by omega, rfl, by simp⟩, by simpa using h, World.grownBy.refl _ _⟩
  case round =>
    clear h
    obtain ⟨a, b, A, rfl, rfl, hab, hA, hg⟩ := hrel
    have hb9 : ((b : Nat) : Int) ≤ 2000000000 := by have := hab.out; omega
    by_cases hlt : b ≤ n
    · have hltI : ((b : Nat) : Int) ≤ (n : Nat) := by omega
      have HA := Lib.hid (And.intro hA hg)
      have HLT := Lib.hid hlt
      clear hA hg hlt
      go_wp2_with fail
      have hh := HH.out
      have h2 := hab.out
      have h3 := HLT.out
      refine (c_insert g pre post _ (A ++ sortL ((R.drop a).take 20) ++ R.drop b) A ((R.drop a).take 20) (R.drop b) a b n cap wr HA.out.1 (by rw [h2.1, ← List.drop_drop, List.append_assoc, List.take_append_drop]) rfl h2.2.2.1.symm (by rw [List.length_take, List.length_drop]; omega) (by rw [List.length_append, List.length_drop]; omega) hl (OrdOk.part (by omega) hh.2 h2.2.2.2)).mono ?_
      rintro ev w2 ⟨rfl, hA2, hg2⟩
      have HA2 := Lib.hid (And.intro hA2 (HA.out.2.trans hg2))
      clear hA2 hg2 hh h2 h3
      go_wp2_with fail
      go_roundw
      case rel =>
        have h2 := hab.out
        have h3 := HLT.out
        have hh := HH.out
        refine ⟨b, b + 20, A ++ sortL ((R.drop a).take 20), rfl, by simp, Lib.hid ⟨rfl, h3, by rw [List.length_append, sortL_len, List.length_take, List.length_drop]; omega, ?_⟩, HA2.out.1, HA2.out.2⟩
        rw [← h2.2.2.2, sortB_step (L := R.drop a) (by omega) (by rw [List.length_drop]; omega), List.drop_drop, ← h2.1, List.append_assoc]
      case measure => have := HLT.out; have := hab.out; simp [intOf]; omega
    · have hltI : ¬ ((b : Nat) : Int) ≤ (n : Nat) := by omega
      have HA := Lib.hid (And.intro hA hg)
      have HLT := Lib.hid hlt
      clear hA hg hlt
      go_wp2_with fail
      have hh := HH.out
      have h2 := hab.out
      have h3 := HLT.out
      refine (c_insert g pre post _ (sortB 20 R) A (R.drop a) [] a n n cap wr HA.out.1 (by simp) (by rw [← h2.2.2.2, sortB_small (by rw [List.length_drop]; omega)]; simp) h2.2.2.1.symm (by rw [List.length_drop]; omega) (by rw [List.length_append, List.length_drop]; omega) hl (OrdOk.part (by omega) hh.2 h2.2.2.2)).mono ?_
      rintro ev w2 ⟨rfl, hA2, hg2⟩
      have HA2 := Lib.hid (And.intro hA2 (HA.out.2.trans hg2))
      clear hA2 hg2 hh h2 h3 HA hltI hb9 HLT
      go_wp2_with fail
      go_loopw [6, 7, 8, 9] (fun kv _ _ _ W => ∃ k : Nat, kv = .int .i64 (k : Nat) ∧ Hid (0 < k ∧ k ≤ 2 * n + 20) ∧ Arr W g pre (sortB k R) post ∧ w.grownBy W (some g)) (fun kv _ _ _ _ => n - (intOf kv).toNat)
      case atStart => exact ⟨20, rfl, Lib.hid ⟨by omega, by omega⟩, HA2.out⟩
      case round =>
        clear HA2
        obtain ⟨k, rfl, hk, hA, hg⟩ := hrel
        by_cases hkn : k < n
        · have hkI : ((k : Nat) : Int) < (n : Nat) := by omega
          have HA := Lib.hid (And.intro hA hg)
          have HKN := Lib.hid hkn
          clear hA hg hkn
          go_wp2_with fail
          obtain ⟨Wo, rfl⟩ : ∃ Wo, Wo = wr := ⟨wr, rfl⟩
          go_loopw [7, 8] (fun av bv W => ∃ (a b : Nat) (A : List El), av = .int .i64 (a : Nat) ∧ bv = .int .i64 (b : Nat) ∧ Hid (b = a + (k + k) ∧ a ≤ n ∧ A.length = a ∧ A ++ sortB (k + k) (R.drop a) = sortB (k + k) R) ∧ Arr W g pre (A ++ sortB k (R.drop a)) post ∧ w.grownBy W (some g)) (fun av _ _ => n - (intOf av).toNat)
          case atStart => exact ⟨0, 2 * k, [], rfl, by simp, Lib.hid ⟨by omega, by omega, rfl, by simp⟩, by simpa using HA.out.1, HA.out.2⟩
          case round =>
            clear HA
            obtain ⟨a, b, A, rfl, rfl, hab, hA, hg⟩ := hrel
            have hb9 : ((b : Nat) : Int) ≤ 4000000000 := by have := hab.out; have := HKN.out; omega
            have hk9 : ((k : Nat) : Int) ≤ 1000000000 := by have := HKN.out; omega
            have ha9 : ((a : Nat) : Int) ≤ 1000000000 := by have := hab.out; omega
            by_cases hlt : b ≤ n
            · have hltI : ((b : Nat) : Int) ≤ (n : Nat) := by omega
              have HA := Lib.hid (And.intro hA hg)
              have HLT := Lib.hid hlt
              have HAK := Lib.hid (show ((a : Nat) : Int) + (k : Nat) = ((a + k : Nat) : Nat) by omega)
              clear hA hg hlt
              go_wp2_with fail
              rw [HAK.out]
              have hh := HH.out
              have h2 := hab.out
              have h3 := HLT.out
              have h4 := HKN.out
              have h5 := hk.out
              have hlen : k + k ≤ (R.drop a).length := by rw [List.length_drop]; omega
              obtain ⟨e1, e2⟩ := sortB_two h5.1 hlen
              have hA := HA.out.1
              have ho := OrdOk.same (OrdOk.part (by omega) hh.2 h2.2.2.2) (C := sortB k (R.drop a)) (fun z => sortB_mem h5.1 _ _ (Nat.le_refl _))
              have hsl := sortB_len h5.1 _ (R.drop a) (Nat.le_refl _)
              rw [e1] at hA ho hsl
              have hX : (sortL ((R.drop a).take k)).length = k := by rw [sortL_len, List.length_take]; omega
              have hY : (sortL (((R.drop a).drop k).take k)).length = k := by rw [sortL_len, List.length_take, List.length_drop]; omega
              have hpos : ∀ y ∈ R.drop a, 0 < y.ord := fun y hy => (hh.2 y (List.mem_of_mem_drop hy)).1
              refine (c_symMerge g pre post n cap hl (k + k) _ (A ++ (sortL (sortL ((R.drop a).take k) ++ sortL (((R.drop a).drop k).take k)) ++ sortB k ((R.drop a).drop (k + k)))) A (sortL ((R.drop a).take k)) (sortL (((R.drop a).drop k).take k)) (sortB k ((R.drop a).drop (k + k))) a (a + k) b wr (by omega) hA rfl rfl h2.2.2.1.symm (by omega) (by omega) (by omega) (by omega) (by rw [List.length_append, hsl, List.length_drop]; omega) (sortL_up fun y hy => hpos y (List.mem_of_mem_take hy)) (sortL_up fun y hy => hpos y (List.mem_of_mem_drop (List.mem_of_mem_take hy))) ho).mono ?_
              rintro ev w3 ⟨rfl, hA2, hg2⟩
              have HA2 := Lib.hid (And.intro hA2 (HA.out.2.trans hg2))
              have HE2 := Lib.hid e2
              clear hA2 hg2 hh h2 h3 h4 h5 hlen e1 e2 hA ho hsl hX hY hpos
              go_wp2_with fail
              go_roundw
              case rel =>
                have h2 := hab.out
                have h3 := HLT.out
                have hh := HH.out
                have hd : (R.drop a).drop (k + k) = R.drop b := by rw [List.drop_drop, ← h2.1]
                refine ⟨b, b + 2 * k, A ++ sortL (sortL ((R.drop a).take k) ++ sortL (((R.drop a).drop k).take k)), rfl, by simp, Lib.hid ⟨by omega, h3, ?_, ?_⟩, ?_, HA2.out.2⟩
                · simp only [List.length_append, sortL_len, List.length_take, List.length_drop]; omega
                · rw [← h2.2.2.2, HE2.out, ← hd, List.append_assoc]
                · have h := HA2.out.1
                  rw [hd, ← List.append_assoc] at h
                  exact h
              case measure => have := HLT.out; have := hab.out; have := hk.out; simp [intOf]; omega
            · have hltI : ¬ ((b : Nat) : Int) ≤ (n : Nat) := by omega
              have HA := Lib.hid (And.intro hA hg)
              have HLT := Lib.hid hlt
              have HAK := Lib.hid (show ((a : Nat) : Int) + (k : Nat) = ((a + k : Nat) : Nat) by omega)
              clear hA hg hlt
              by_cases hm : a + k < n
              · have hmI : ((a : Nat) : Int) + (k : Nat) < (n : Nat) := by omega
                have HM := Lib.hid hm
                clear hm
                go_wp2_with fail
                rw [HAK.out]
                have hh := HH.out
                have h2 := hab.out
                have h3 := HLT.out
                have h4 := HM.out
                have h5 := hk.out
                have hlen : k < (R.drop a).length := by rw [List.length_drop]; omega
                obtain ⟨e1, e2⟩ := sortB_last h5.1 hlen (by rw [List.length_drop]; omega)
                have hA := HA.out.1
                have ho := OrdOk.same (OrdOk.part (by omega) hh.2 h2.2.2.2) (C := sortB k (R.drop a)) (fun z => sortB_mem h5.1 _ _ (Nat.le_refl _))
                rw [e1] at hA ho
                have hX : (sortL ((R.drop a).take k)).length = k := by rw [sortL_len, List.length_take]; omega
                have hY : (sortL ((R.drop a).drop k)).length = n - a - k := by rw [sortL_len, List.length_drop, List.length_drop]; omega
                have hpos : ∀ y ∈ R.drop a, 0 < y.ord := fun y hy => (hh.2 y (List.mem_of_mem_drop hy)).1
                have hA' : Arr wr g pre (A ++ (sortL ((R.drop a).take k) ++ (sortL ((R.drop a).drop k) ++ []))) post := by simpa using hA
                refine (c_symMerge g pre post n cap hl (n - a) _ (A ++ (sortL (sortL ((R.drop a).take k) ++ sortL ((R.drop a).drop k)) ++ [])) A (sortL ((R.drop a).take k)) (sortL ((R.drop a).drop k)) [] a (a + k) n wr (by omega) hA' rfl rfl h2.2.2.1.symm (by omega) (by omega) (by omega) (by omega) (by simp only [List.length_append, List.length_nil]; omega) (sortL_up fun y hy => hpos y (List.mem_of_mem_take hy)) (sortL_up fun y hy => hpos y (List.mem_of_mem_drop hy)) (by simpa using ho)).mono ?_
                rintro ev w3 ⟨rfl, hA2, hg2⟩
                have HA2 := Lib.hid (show Arr w3 g pre (sortB (k + k) R) post ∧ w.grownBy w3 (some g) by
                  refine ⟨?_, HA.out.2.trans hg2⟩
                  rw [← h2.2.2.2, e2]
                  simpa using hA2)
                clear hA2 hg2 hh h2 h3 h4 h5 hlen e1 e2 hA ho hX hY hpos hA'
                go_wp2_with fail
                go_roundw
                case rel => exact ⟨k + k, by simp; omega, Lib.hid ⟨by have := hk.out; omega, by have := HKN.out; omega⟩, HA2.out⟩
                case measure => have := HKN.out; have := hk.out; simp [intOf]; omega
              · have hmI : ¬ ((a : Nat) : Int) + (k : Nat) < (n : Nat) := by omega
                have HA2 := Lib.hid (show Arr wr g pre (sortB (k + k) R) post ∧ w.grownBy wr (some g) by
                  refine ⟨?_, HA.out.2⟩
                  have h2 := hab.out
                  have hh := HH.out
                  have hA := HA.out.1
                  rw [sortB_small (by rw [List.length_drop]; omega)] at hA
                  rw [← h2.2.2.2, sortB_small (L := R.drop a) (by rw [List.length_drop]; omega)]
                  exact hA)
                clear hm HA
                go_wp2_with fail
                go_roundw
                case rel => exact ⟨k + k, by simp; omega, Lib.hid ⟨by have := hk.out; omega, by have := HKN.out; omega⟩, HA2.out⟩
                case measure => have := HKN.out; have := hk.out; simp [intOf]; omega
        · have hkI : ¬ ((k : Nat) : Int) < (n : Nat) := by omega
          have HE := Lib.hid (show Arr wr g pre (sortL R) post ∧ w.grownBy wr (some g) by
            rw [← sortB_small (k := k) (L := R) (by have := HH.out.1; omega)]
            exact ⟨hA, hg⟩)
          clear hA hg hkn
          go_wp2_with fail
          refine bodyPost_end (results_none rfl _ _ _) rfl ?_
          exact ⟨rfl, HE.out⟩
end Go.Proofs.YteokfknkcbmigaaGreatDoor
