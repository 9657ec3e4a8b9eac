/-
 How many of the last bytes are held, as the document counts. How many of the last bytes are held, as the document counts: of any text.
-/
import Derived.Test.YteokfknkcbmigaaGreatDoorLawsA
import Derived.Test.YteokfknkcbmigaaGreatDoorRefA
section
namespace Go.Proofs.YteokfknkcbmigaaGreatDoor
open Go.RowKit Go.Rp Go.Shelf Go.Maps Go.Nm

set_option maxRecDepth 100000 in
set_option maxHeartbeats 4000000 in
theorem c_need (x : Nat) (hx : x < 256) (w : World) : Calls Tryz.prog 85 #[.int .u8 x] w fun e w' => e = .returned (.int .i64 (needN x)) ∧ w' = w := by
 obtain ⟨n, hn⟩ : ∃ n, needN x = n := ⟨_, rfl⟩
 have HN := Lib.hid hn
 unfold needN at hn
 rw [HN.out]
 have hx0 : (0 : Int) ≤ (x : Nat) := by omega
 have H := Lib.hid hn
 clear HN hn
 go_enter Tryz.func85, Tryz.ntmps85
 go_wp2_with fail
 all_goals (have hn := H.out)
 all_goals first
  | (obtain rfl : n = 1 := (by (rw [← hn]; repeat' split) <;> omega); exact ret_one rfl rfl rfl ⟨rfl, rfl⟩)
  | (obtain rfl : n = 2 := (by (rw [← hn]; repeat' split) <;> omega); exact ret_one rfl rfl rfl ⟨rfl, rfl⟩)
  | (obtain rfl : n = 3 := (by (rw [← hn]; repeat' split) <;> omega); exact ret_one rfl rfl rfl ⟨rfl, rfl⟩)
  | (obtain rfl : n = 4 := (by (rw [← hn]; repeat' split) <;> omega); exact ret_one rfl rfl rfl ⟨rfl, rfl⟩)
theorem lh_cases (x : Nat) : (x = 224 → loN x = 160 ∧ hiN x = 191) ∧ (x = 240 → loN x = 144 ∧ hiN x = 191) ∧ (x = 237 → loN x = 128 ∧ hiN x = 159) ∧ (x = 244 → loN x = 128 ∧ hiN x = 143) ∧ (x ≠ 224 → x ≠ 240 → x ≠ 237 → x ≠ 244 → loN x = 128 ∧ hiN x = 191) := by
 unfold loN hiN
 refine ⟨?_, ?_, ?_, ?_, ?_⟩
 ·rintro rfl; simp
 ·rintro rfl; simp
 ·rintro rfl; simp
 ·rintro rfl; simp
 ·intro a b c d
  simp [a, b, c, d]
set_option maxRecDepth 100000 in
set_option maxHeartbeats 8000000 in
theorem c_begins (pb o pc : Nat) (l : List UInt8) (w : World) (h0 : 0 < l.length) (h3 : l.length ≤ 3) (hp : ∀ j (h : j < l.length), w.cell? ⟨pb, o + j, none⟩ = some (.int .u8 l[j].toNat)) :
  Calls Tryz.prog 67 #[.slice (some ⟨pb, o, none⟩) l.length pc] w fun e w' => e = .returned (.bool (begL l)) ∧ w' = w := by
 obtain ⟨x0, hx0⟩ : ∃ x, (l.getD 0 0).toNat = x := ⟨_, rfl⟩
 obtain ⟨x1, hx1⟩ : ∃ x, (l.getD 1 0).toNat = x := ⟨_, rfl⟩
 obtain ⟨x2, hx2⟩ : ∃ x, (l.getD 2 0).toNat = x := ⟨_, rfl⟩
 have b0 : x0 < 256 := hx0 ▸ UInt8.toNat_lt _
 have b1 : x1 < 256 := hx1 ▸ UInt8.toNat_lt _
 have b2 : x2 < 256 := hx2 ▸ UInt8.toNat_lt _
 have hc0 : w.cell? ⟨pb, o, none⟩ = some (.int .u8 x0) := by
  have := hp 0 h0
  rw [Nat.add_zero] at this
  rw [this, ← hx0, List.getD_eq_getElem?_getD, List.getElem?_eq_getElem h0]; rfl
 have hc1 : 1 < l.length → w.cell? ⟨pb, o + 1, none⟩ = some (.int .u8 x1) := fun h => by
  rw [hp 1 h, ← hx1, List.getD_eq_getElem?_getD, List.getElem?_eq_getElem h]; rfl
 have hc2 : 2 < l.length → w.cell? ⟨pb, o + 2, none⟩ = some (.int .u8 x2) := fun h => by
  rw [hp 2 h, ← hx2, List.getD_eq_getElem?_getD, List.getElem?_eq_getElem h]; rfl
 unfold begL
 rw [hx0, hx1, hx2]
 have HND := Lib.hid (fun w2 => c_need x0 b0 w2)
 clear hp hx0 hx1 hx2
 generalize l.length = n at *
 obtain ⟨b, hb⟩ : ∃ b, begN n x0 x1 x2 = b := ⟨_, rfl⟩
 rw [hb]
 have HB := Lib.hid hb
 clear hb
 have HLH := Lib.hid (lh_cases x0)
 have hnz : (0 : Int) < (n : Int) := by omega
 have hn0 : ((n : Int) == 0) = false := by simp; omega
 by_cases hnn : needN x0 ≤ n
 ·have hd := decide_eq_true hnn
  have hdI : ((needN x0 : Nat) : Int) ≤ (n : Nat) := by omega
  obtain rfl : b = false := by rw [← HB.out]; exact decide_eq_false (fun h => by omega)
  go_enter Tryz.func67, Tryz.ntmps67
  go_wp2_with fail
  refine (HND.out _).mono ?_
  rintro e w1 ⟨rfl, e1⟩
  obtain rfl := e1.symm
  clear e1
  go_wp2_with fail
  exact ret_one rfl rfl rfl ⟨rfl, rfl⟩
 ·have hd := decide_eq_false hnn
  have hdI : ¬ ((needN x0 : Nat) : Int) ≤ (n : Nat) := by omega
  have HN := Lib.hid hnn
  clear hnn
  go_enter Tryz.func67, Tryz.ntmps67
  go_wp2_with fail
  refine (HND.out _).mono ?_
  rintro e w1 ⟨rfl, e1⟩
  obtain rfl := e1.symm
  clear e1
  go_wp2_with fail
  go_loopw [3] (fun iv W => ∃ i : Nat, iv = .int .i64 (i : Nat) ∧ 1 ≤ i ∧ i ≤ n ∧ W = w ∧ Hid ((1 < i → loN x0 ≤ x1 ∧ x1 ≤ hiN x0) ∧ (2 < i → 128 ≤ x2 ∧ x2 ≤ 191))) (fun iv _ => n + 1 - (intOf iv).toNat)
  case atStart => exact ⟨1, rfl, by omega, by omega, rfl, Lib.hid ⟨fun h => by omega, fun h => by omega⟩⟩
  case round =>
   obtain ⟨i, rfl, hi1, hi2, rfl, HG⟩ := hrel
   by_cases hlt : i < n
   ·have hd2 : decide (i < n) = true := decide_eq_true hlt
    have hI : ((i : Nat) : Int) < (n : Nat) := by omega
    by_cases h1 : i = 1
    ·subst h1
     have c1 := hc1 hlt
     have hlh := HLH.out
     clear hc1 hc2
     have hT : ∀ k : Nat, x0 = k → ((x0 : Int) == (k : Int)) = true := fun k h => by rw [h]; simp
     have hF : ∀ k : Nat, x0 ≠ k → ((x0 : Int) == (k : Int)) = false := fun k h => beq_false_of_ne (by omega)
     by_cases q0 : x0 = 224
     ·have y0 := hT 224 q0
      have HQ := Lib.hid (hlh.1 q0)
      clear hT hF hlh q0
      go_wp2_with fail
      all_goals have hq := HQ.out
      all_goals first
       | (obtain rfl : b = false := HB.out.symm.trans (decide_eq_false (fun h => by have := h.2.2.1 hlt; omega)); exact ret_one rfl rfl rfl ⟨rfl, rfl⟩)
       | exact ⟨⟨2, rfl, by omega, by omega, trivial, Lib.hid ⟨fun _ => by omega, fun h => by omega⟩⟩, by simp only [intOf]; omega⟩
     have y0 := hF 224 q0
     by_cases q1 : x0 = 237
     ·have y1 := hT 237 q1
      have HQ := Lib.hid (hlh.2.2.1 q1)
      clear hT hF hlh q0 q1
      go_wp2_with fail
      all_goals have hq := HQ.out
      all_goals first
       | (obtain rfl : b = false := HB.out.symm.trans (decide_eq_false (fun h => by have := h.2.2.1 hlt; omega)); exact ret_one rfl rfl rfl ⟨rfl, rfl⟩)
       | exact ⟨⟨2, rfl, by omega, by omega, trivial, Lib.hid ⟨fun _ => by omega, fun h => by omega⟩⟩, by simp only [intOf]; omega⟩
     have y1 := hF 237 q1
     by_cases q2 : x0 = 240
     ·have y2 := hT 240 q2
      have HQ := Lib.hid (hlh.2.1 q2)
      clear hT hF hlh q0 q1 q2
      go_wp2_with fail
      all_goals have hq := HQ.out
      all_goals first
       | (obtain rfl : b = false := HB.out.symm.trans (decide_eq_false (fun h => by have := h.2.2.1 hlt; omega)); exact ret_one rfl rfl rfl ⟨rfl, rfl⟩)
       | exact ⟨⟨2, rfl, by omega, by omega, trivial, Lib.hid ⟨fun _ => by omega, fun h => by omega⟩⟩, by simp only [intOf]; omega⟩
     have y2 := hF 240 q2
     by_cases q3 : x0 = 244
     ·have y3 := hT 244 q3
      have HQ := Lib.hid (hlh.2.2.2.1 q3)
      clear hT hF hlh q0 q1 q2 q3
      go_wp2_with fail
      all_goals have hq := HQ.out
      all_goals first
       | (obtain rfl : b = false := HB.out.symm.trans (decide_eq_false (fun h => by have := h.2.2.1 hlt; omega)); exact ret_one rfl rfl rfl ⟨rfl, rfl⟩)
       | exact ⟨⟨2, rfl, by omega, by omega, trivial, Lib.hid ⟨fun _ => by omega, fun h => by omega⟩⟩, by simp only [intOf]; omega⟩
     have y3 := hF 244 q3
     have HQ := Lib.hid (hlh.2.2.2.2 q0 q2 q1 q3)
     clear hT hF hlh q0 q1 q2 q3
     go_wp2_with fail
     all_goals have hq := HQ.out
     all_goals first
      | (obtain rfl : b = false := HB.out.symm.trans (decide_eq_false (fun h => by have := h.2.2.1 hlt; omega)); exact ret_one rfl rfl rfl ⟨rfl, rfl⟩)
      | exact ⟨⟨2, rfl, by omega, by omega, trivial, Lib.hid ⟨fun _ => by omega, fun h => by omega⟩⟩, by simp only [intOf]; omega⟩
    ·obtain rfl : i = 2 := by omega
     have c2 := hc2 hlt
     clear hc1 hc2
     go_wp2_with fail
     all_goals first
      | (obtain rfl : b = false := HB.out.symm.trans (decide_eq_false (fun h => by have := h.2.2.2 hlt; omega)); exact ret_one rfl rfl rfl ⟨rfl, rfl⟩)
      | exact ⟨⟨3, rfl, by omega, by omega, trivial, Lib.hid ⟨fun _ => HG.out.1 (by omega), fun h => by omega⟩⟩, by simp only [intOf]; omega⟩
   ·obtain rfl : i = n := by omega
    obtain rfl : b = true := by
     rw [← HB.out]
     exact decide_eq_true ⟨h0, by have := HN.out; omega, HG.out.1, HG.out.2⟩
    go_wp2_with fail
    exact ret_one rfl rfl rfl ⟨rfl, rfl⟩
end Go.Proofs.YteokfknkcbmigaaGreatDoor
end

section
namespace Go.Proofs.YteokfknkcbmigaaGreatDoor
open Go.RowKit Go.Rp Go.Shelf Go.Maps Go.Nm

theorem held3_of {l : List UInt8} {k : Nat} (h : ∀ j, k < j → j ≤ 3 → j ≤ l.length → begL (l.drop (l.length - j)) = false) (hk : k ≤ 3) (hk0 : 1 ≤ k → k ≤ l.length ∧ begL (l.drop (l.length - k)) = true) : held3 l = k := by
 have hn : ∀ j, k < j → j ≤ 3 → ¬ (j ≤ l.length ∧ begL (l.drop (l.length - j)) = true) := fun j a b c => by
  rw [h j a b c.1] at c
  cases c.2
 unfold held3
 by_cases h3 : k = 3
 ·subst h3
  rw [if_pos (hk0 (by omega))]
 rw [if_neg (hn 3 (by omega) (by omega))]
 by_cases h2 : k = 2
 ·subst h2
  rw [if_pos (hk0 (by omega))]
 rw [if_neg (hn 2 (by omega) (by omega))]
 by_cases h1 : k = 1
 ·subst h1
  rw [if_pos (hk0 (by omega))]
 rw [if_neg (hn 1 (by omega) (by omega))]
 omega
set_option maxRecDepth 100000 in
set_option maxHeartbeats 8000000 in
theorem c_rHeld (pb o pc : Nat) (l : List UInt8) (w : World) (hl : l.length ≤ 1000000) (hpc : l.length ≤ pc) (hp : ∀ j (h : j < l.length), w.cell? ⟨pb, o + j, none⟩ = some (.int .u8 l[j].toNat)) :
  Calls Tryz.prog 43 #[.slice (some ⟨pb, o, none⟩) l.length pc] w fun e w' => e = .returned (.int .i64 (held3 l)) ∧ w' = w := by
 obtain ⟨r, hr⟩ : ∃ r, held3 l = r := ⟨_, rfl⟩
 have HR := Lib.hid (fun k h hk hk0 => (held3_of (l := l) (k := k) h hk hk0).symm.trans hr)
 have HB := Lib.hid (fun k (h1 : 1 ≤ k) (h3 : k ≤ 3) (hk : k ≤ l.length) pc' => show Calls Tryz.prog 67 #[.slice (some ⟨pb, o + (l.length - k), none⟩) (l.length - (l.length - k)) pc'] w fun e w' => e = .returned (.bool (begL (l.drop (l.length - k)))) ∧ w' = w from by
  have hlen : (l.drop (l.length - k)).length = k := by rw [List.length_drop]; omega
  have := c_begins pb (o + (l.length - k)) pc' (l.drop (l.length - k)) w (by omega) (by omega) (fun j hj => by
   rw [hlen] at hj
   rw [List.getElem_drop, Nat.add_assoc]
   exact hp _ (by omega))
  rw [hlen] at this
  rw [show l.length - (l.length - k) = k by omega]
  exact this)
 rw [hr]
 clear hr hp
 have hli : ((l.length : Nat) : Int) ≤ 1000000 := by omega
 go_enter Tryz.func43, Tryz.ntmps43
 go_wp2_with fail
 go_loopw [3] (fun kv W => ∃ k : Nat, kv = .int .i64 (k : Nat) ∧ k ≤ 3 ∧ Hid (∀ j, k < j → j ≤ 3 → j ≤ l.length → begL (l.drop (l.length - j)) = false) ∧ W = w) (fun kv _ => (intOf kv).toNat)
 case atStart => exact ⟨3, rfl, by omega, Lib.hid (fun j a b => by omega), rfl⟩
 case round =>
  obtain ⟨k, rfl, hk3, HG, rfl⟩ := hrel
  by_cases hk1 : 1 ≤ k
  ·have hI : (1 : Int) ≤ (k : Nat) := by omega
   by_cases hkl : k ≤ l.length
   ·have hd : decide (k ≤ l.length) = true := decide_eq_true hkl
    have hJ : ((k : Nat) : Int) ≤ (l.length : Nat) := by omega
    have hs1 : (0 : Int) ≤ (l.length : Nat) - (k : Nat) := by omega
    cases hb : begL (l.drop (l.length - k)) with
    | true =>
     have HE := Lib.hid (HR.out k HG.out hk3 (fun _ => ⟨hkl, hb⟩))
     have HBB := Lib.hid hb
     have HK := Lib.hid hkl
     clear hb hkl
     go_wp2_with fail
     have HC := Lib.hid (fun pc' => HBB.out ▸ HB.out k hk1 hk3 HK.out pc')
     refine (HC.out _).mono ?_
     rintro e w1 ⟨rfl, e1⟩
     obtain rfl := e1.symm
     clear e1
     go_wp2_with fail
     obtain rfl := HE.out
     exact ret_one rfl rfl rfl ⟨rfl, rfl⟩
    | false =>
     have HBB := Lib.hid hb
     have HK := Lib.hid hkl
     clear hb hkl
     go_wp2_with fail
     have HC := Lib.hid (fun pc' => HBB.out ▸ HB.out k hk1 hk3 HK.out pc')
     refine (HC.out _).mono ?_
     rintro e w1 ⟨rfl, e1⟩
     obtain rfl := e1.symm
     clear e1
     go_wp2_with fail
     refine ⟨⟨k - 1, by simp; omega, by omega, Lib.hid (fun j a b c => ?_), trivial⟩, by simp only [intOf]; omega⟩
     by_cases hj : j = k
     ·subst hj
      exact HBB.out
     ·exact HG.out j (by omega) b c
   ·have hd : decide (k ≤ l.length) = false := decide_eq_false hkl
    have hJ : ¬ ((k : Nat) : Int) ≤ (l.length : Nat) := by omega
    go_wp2_with fail
    exact ⟨⟨k - 1, by simp; omega, by omega, Lib.hid (fun j a b c => by omega), trivial⟩, by simp only [intOf]; omega⟩
  ·obtain rfl : k = 0 := by omega
   obtain rfl : r = 0 := (HR.out 0 HG.out (by omega) (fun h => by omega)).symm
   go_wp2_with fail
   exact ret_one rfl rfl rfl ⟨rfl, rfl⟩
end Go.Proofs.YteokfknkcbmigaaGreatDoor
end
