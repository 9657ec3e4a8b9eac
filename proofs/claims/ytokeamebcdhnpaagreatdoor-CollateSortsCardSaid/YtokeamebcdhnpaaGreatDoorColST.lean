/-
 The order of two numbers by their keys. Texts in order. A short row of numbers in order. Texts in order of their keys. The document's Places: are two lists of numbers the same?
-/
import Derived.Test.YtokeamebcdhnpaaGreatDoorColMK
import Derived.Laws.MakeOwn
section
namespace Go.Proofs.YtokeamebcdhnpaaGreatDoor
open Go.RowKit Go.Rp Go.Shelf Go.Maps Go.Cl

set_option maxRecDepth 100000 in
set_option maxHeartbeats 4000000 in
theorem c_less (kb gk n cap x y : Nat) (K L : List UInt8) (u v : Value) (w : World) (hb : w.cell? ⟨kb, 0, none⟩ = some (.slice (some ⟨gk, 0, none⟩) n cap)) (hx : x < n) (hy : y < n) (_hn : n ≤ 100) (cx : w.cell? ⟨gk, x, none⟩ = some u) (cy : w.cell? ⟨gk, y, none⟩ = some v) (hu : Lib.HoldsBytes w u K) (hv : Lib.HoldsBytes w v L) :
  Calls Tryz.prog 49 #[.int .i64 (x : Nat), .int .i64 (y : Nat), .pointer (some ⟨kb, 0, none⟩)] w fun e w' => e = .returned (.int .i64 (cmpB K L)) ∧ Ext w w' := by
 have hxI : ((x : Nat) : Int) < (n : Nat) := by omega
 have hyI : ((y : Nat) : Int) < (n : Nat) := by omega
 have HU := Lib.hid hu
 have HV := Lib.hid hv
 obtain ⟨p, cp, rfl, _⟩ := hu
 obtain ⟨q, cq, rfl, _⟩ := hv
 have q0 : ∀ w', EOn (fun _ => True) w w' → w'.cell? ⟨kb, 0, none⟩ = some (.slice (some ⟨gk, 0, none⟩) n cap) := fun w' hx => hx.cell trivial hb
 have q1 : ∀ w', EOn (fun _ => True) w w' → w'.cell? ⟨gk, x, none⟩ = some (.slice p K.length cp) := fun w' hx => hx.cell trivial cx
 have q2 : ∀ w', EOn (fun _ => True) w w' → w'.cell? ⟨gk, y, none⟩ = some (.slice q L.length cq) := fun w' hx => hx.cell trivial cy
 clear hb cx cy
 go_enter Tryz.func49, Tryz.ntmps49
 go_wp2_with fail
 refine wp_lex (fun _ => True) [true, true, true, true, true, true, true, true, false] (by kernel_rfl) (by kernel_rfl) ?_
 repeat first
  | refine wpG_move' ?_
  | refine wpG_assign' ?_
  | refine wpG_val' ?_
  | refine wpG_no' ?_
 clear q0 q1 q2
 refine wpG_do (by rfl) (fun w1 hx1 K' hK => ?_)
 go_wp2_with fail
 refine (c_bCmp _ _ K L w1 (holds_ext HU.out hx1) (holds_ext HV.out hx1)).mono ?_
 rintro e w2 ⟨rfl, e2⟩
 obtain rfl := e2.symm
 clear e2
 refine hK _ _ ⟨EOn.refl _ _, ?_⟩
 clear hK
 refine wpG_end (fun w3 hx3 => ?_)
 have HX := Lib.hid (hx1.trans hx3)
 clear hx1 hx3
 go_wp2_with fail
 refine gQ_normal ?_
 go_wp2_with fail
 exact ret_one rfl rfl rfl ⟨rfl, HX.out⟩
end Go.Proofs.YtokeamebcdhnpaaGreatDoor
end

section
namespace Go.Proofs.YtokeamebcdhnpaaGreatDoor
open Go.RowKit Go.Rp Go.Shelf Go.Maps Go.Cl

/-- Numbers in a block, ahead of others. -/
def ArrI (W : World) (g : Nat) (R : List Nat) (post : List Value) : Prop := W.heap[g]? = some (.cells (R.map (fun n => Value.int .i64 (n : Nat)) ++ post).toArray 3 (0, 0))
theorem ArrI.get {W : World} {g : Nat} {post : List Value} {R : List Nat} (h : ArrI W g R post) {i : Nat} (hi : i < R.length) : W.cell? ⟨g, i, none⟩ = some (.int .i64 (R[i] : Nat)) := by
 rw [cell_blk h, List.getElem?_toArray, List.getElem?_append_left (by simpa using hi)]
 simp [hi]
theorem ArrI.set {W : World} {g : Nat} {post : List Value} {R : List Nat} (h : ArrI W g R post) {i : Nat} (hi : i < R.length) (x : Nat) : ArrI (W.setCell ⟨g, i, none⟩ (.int .i64 (x : Nat))) g (R.set i x) post := by
 unfold ArrI
 rw [set_blk h i]
 congr 2
 simp [List.map_set, List.set_append_left, hi]
abbrev cmpI (kb : Nat) : Value := .func (.func 49) #[] #[.pointer (some ⟨kb, 0, none⟩)]
/-- Laid in from the right: behind all that it does not stand ahead of. -/
def insR (lt : Nat → Nat → Bool) (x : Nat) : List Nat → List Nat
 | [] => [x]
 | y :: r => if lt x y then y :: insR lt x r else x :: y :: r
def insB (lt : Nat → Nat → Bool) (x : Nat) (S : List Nat) : List Nat := (insR lt x S.reverse).reverse
def sortI (lt : Nat → Nat → Bool) (L : List Nat) : List Nat := L.foldl (fun S x => insB lt x S) []
theorem insR_at (lt : Nat → Nat → Bool) (x : Nat) (P : List Nat) : ∀ (Q : List Nat), (∀ y ∈ Q, lt x y = true) → (P = [] ∨ ∃ y P', P = y :: P' ∧ lt x y = false) → insR lt x (Q ++ P) = Q ++ x :: P
 | [], _, h2 => by
  rcases h2 with rfl | ⟨y, P', rfl, h⟩
  ·rfl
  ·show insR lt x (y :: P') = _
   rw [insR, h]
   rfl
 | y :: Q, h1, h2 => by
  rw [List.cons_append, insR, if_pos (h1 y (List.mem_cons_self ..)), insR_at lt x P Q (fun z hz => h1 z (List.mem_cons_of_mem _ hz)) h2]
  rfl
theorem insB_at {lt : Nat → Nat → Bool} {x : Nat} {P1 P2 : List Nat} (h1 : ∀ y ∈ P2, lt x y = true) (h2 : P1 = [] ∨ ∃ y P', P1 = P' ++ [y] ∧ lt x y = false) : insB lt x (P1 ++ P2) = P1 ++ x :: P2 := by
 unfold insB
 rw [List.reverse_append, insR_at lt x P1.reverse P2.reverse (fun y hy => h1 y (List.mem_reverse.1 hy)) ?_]
 ·simp
 ·rcases h2 with rfl | ⟨y, P', rfl, h⟩
  ·exact .inl rfl
  ·exact .inr ⟨y, P'.reverse, by simp, h⟩
theorem insR_len (lt : Nat → Nat → Bool) (x : Nat) : ∀ S, (insR lt x S).length = S.length + 1
 | [] => rfl
 | y :: r => by
  unfold insR
  split
  ·simp [insR_len lt x r]
  ·simp
theorem insB_len (lt : Nat → Nat → Bool) (x : Nat) (S : List Nat) : (insB lt x S).length = S.length + 1 := by simp [insB, insR_len]
theorem insR_mem (lt : Nat → Nat → Bool) (x z : Nat) : ∀ S, z ∈ insR lt x S ↔ z = x ∨ z ∈ S
 | [] => by simp [insR]
 | y :: r => by
  unfold insR
  split
  ·simp [insR_mem lt x z r]
   constructor
   ·rintro (h | h | h)
    ·exact .inr (.inl h)
    ·exact .inl h
    ·exact .inr (.inr h)
   ·rintro (h | h | h)
    ·exact .inr (.inl h)
    ·exact .inl h
    ·exact .inr (.inr h)
  ·simp
theorem insB_mem (lt : Nat → Nat → Bool) (x z : Nat) (S : List Nat) : z ∈ insB lt x S ↔ z = x ∨ z ∈ S := by simp [insB, insR_mem]
theorem sortI_snoc (lt : Nat → Nat → Bool) (L : List Nat) (x : Nat) : sortI lt (L ++ [x]) = insB lt x (sortI lt L) := by simp [sortI, List.foldl_append]
theorem sortI_len (lt : Nat → Nat → Bool) (L : List Nat) : (sortI lt L).length = L.length := by
 have key : ∀ (L S : List Nat), (L.foldl (fun S x => insB lt x S) S).length = S.length + L.length := by
  intro L
  induction L with
  | nil => intro S; rfl
  | cons x L ih => intro S; rw [List.foldl_cons, ih, insB_len, List.length_cons]; omega
 simpa [sortI] using key L []
theorem sortI_mem (lt : Nat → Nat → Bool) (L : List Nat) (z : Nat) : z ∈ sortI lt L ↔ z ∈ L := by
 have key : ∀ (L S : List Nat), z ∈ L.foldl (fun S x => insB lt x S) S ↔ z ∈ S ∨ z ∈ L := by
  intro L
  induction L with
  | nil => intro S; simp
  | cons x L ih =>
   intro S
   rw [List.foldl_cons, ih, insB_mem, List.mem_cons]
   constructor
   ·rintro ((h | h) | h)
    ·exact .inr (.inl h)
    ·exact .inl h
    ·exact .inr (.inr h)
   ·rintro (h | h | h)
    ·exact .inl (.inr h)
    ·exact .inl (.inl h)
    ·exact .inr h
 simpa [sortI] using key L []
theorem grown_cell (W : World) (g i : Nat) (v : Value) : W.grownBy (W.setCell ⟨g, i, none⟩ v) (some g) :=
 ⟨rfl, rfl, rfl, (KeepsWalks.setCell W _ v).size, fun k _ hk => Below.heap_setCell _ _ _ k (fun e => hk (by rw [e]))⟩
set_option maxRecDepth 100000 in
set_option maxHeartbeats 4000000 in
theorem c_insI (g cap kb n : Nat) (post : List Value) (cm : Nat → Nat → Int) (R : List Nat) (w W0 : World) (h : ArrI w g R post) (hn : R.length = n) (_hc : n ≤ cap) (hl : n ≤ 100) (hx : W0.grownBy w (some g))
  (HC : ∀ x ∈ R, ∀ y ∈ R, ∀ w', W0.grownBy w' (some g) → Calls Tryz.prog 49 #[.int .i64 (x : Nat), .int .i64 (y : Nat), .pointer (some ⟨kb, 0, none⟩)] w' fun e w'' => e = .returned (.int .i64 (cm x y)) ∧ Ext w' w'') (hcm : ∀ x y, -1 ≤ cm x y ∧ cm x y ≤ 1) :
  Calls Tryz.prog 96 #[.slice (some ⟨g, 0, none⟩) n cap, .int .i64 0, .int .i64 (n : Nat), cmpI kb] w fun e w' => e = .returned (.tuple #[]) ∧ ArrI w' g (sortI (fun x y => decide (cm x y < 0)) R) post ∧ W0.grownBy w' (some g) := by
 have hnI : ((n : Nat) : Int) ≤ 100 := by omega
 obtain ⟨lt, hlt0⟩ : ∃ lt : Nat → Nat → Bool, (fun x y => decide (cm x y < 0)) = lt := ⟨_, rfl⟩
 have HLT := Lib.hid hlt0
 have HCC := Lib.hid HC
 have HCM := Lib.hid hcm
 have HN := Lib.hid hn
 rw [hlt0]
 clear hlt0 HC hcm hn
 go_enter Tryz.func96, Tryz.ntmps96
 go_wp2_with fail
 go_loopw [8] (fun iv W => ∃ i : Nat, iv = .int .i64 (i : Nat) ∧ 1 ≤ i ∧ (i ≤ n ∨ i = 1) ∧ Hid (ArrI W g (sortI lt (R.take i) ++ R.drop i) post) ∧ Hid (W0.grownBy W (some g))) (fun iv _ => n + 2 - (intOf iv).toNat)
 case atStart =>
  refine ⟨1, rfl, by omega, by omega, Lib.hid ?_, Lib.hid hx⟩
  cases R with
  | nil => exact h
  | cons x R => exact h
 case round =>
  obtain ⟨i, rfl, hi1, hi2, HA, HX⟩ := hrel
  by_cases hlt : i < n
  ·have hI : ((i : Nat) : Int) < (n : Nat) := by omega
   have hd : decide (i < n) = true := decide_eq_true hlt
   have hiR : i < R.length := by have := HN.out; omega
   obtain ⟨x, hxi⟩ : ∃ x, R[i] = x := ⟨_, rfl⟩
   have HXI := Lib.hid (show R.drop i = x :: R.drop (i + 1) ∧ R.take (i + 1) = R.take i ++ [x] ∧ x ∈ R from ⟨by rw [← hxi]; exact List.drop_eq_getElem_cons hiR, by rw [← hxi]; exact List.take_succ_eq_append_getElem hiR, by rw [← hxi]; exact List.getElem_mem hiR⟩)
   have HLE := Lib.hid (show (sortI lt (R.take i)).length = i ∧ (R.drop (i + 1)).length = n - (i + 1) from ⟨by rw [sortI_len, List.length_take]; omega, by rw [List.length_drop, HN.out]⟩)
   have HMM := Lib.hid (show ∀ y ∈ sortI lt (R.take i), y ∈ R from fun y hy => List.mem_of_mem_take ((sortI_mem lt _ y).1 hy))
   clear hxi hiR
   go_wp2_with fail
   go_loopw [9] (fun jv W => ∃ (j : Nat) (P1 P2 : List Nat), jv = .int .i64 (j : Nat) ∧ Hid (j = P1.length ∧ P1 ++ P2 = sortI lt (R.take i) ∧ ∀ y ∈ P2, lt x y = true) ∧ Hid (ArrI W g (P1 ++ x :: P2 ++ R.drop (i + 1)) post) ∧ Hid (W0.grownBy W (some g))) (fun jv _ => (intOf jv).toNat)
   case atStart => exact ⟨i, sortI lt (R.take i), [], rfl, Lib.hid ⟨HLE.out.1.symm, by simp, fun y hy => by cases hy⟩, Lib.hid (by rw [List.append_assoc]; have := HA.out; rw [HXI.out.1] at this; exact this), HX⟩
   case round =>
    clear HA HX
    obtain ⟨j, P1, P2, rfl, HP, HB, HY⟩ := hrel
    rcases List.eq_nil_or_concat P1 with rfl | ⟨P, y, rfl⟩
    ·obtain rfl : j = 0 := by simpa using HP.out.1
     have hnn : ¬ (0 : Int) < ((0 : Nat) : Int) := by omega
     have HEND := Lib.hid (show ArrI wr g (sortI lt (R.take (i + 1)) ++ R.drop (i + 1)) post by
      rw [HXI.out.2.1, sortI_snoc, ← HP.out.2.1, insB_at HP.out.2.2 (.inl rfl)]
      exact HB.out)
     clear HB
     go_wp2_with fail
     refine wp_lex (fun _ => True) [true, true, true, true, true, true, true, true, true, true, true, true, true, true, true, true, true] (by kernel_rfl) (by kernel_rfl) ?_
     repeat first
      | refine wpG_move' ?_
      | refine wpG_assign' ?_
      | refine wpG_val' ?_
      | refine wpG_no' ?_
     refine wpG_end (fun w5 hx5 => ?_)
     have HE5 := Lib.hid (show ArrI w5 g (sortI lt (R.take (i + 1)) ++ R.drop (i + 1)) post from hx5.blk HEND.out)
     have HX5 := Lib.hid (HY.out.trans (ext_grown hx5 (some g)))
     clear hx5 HEND HY
     go_wp2_with fail
     refine gQ_normal ?_
     go_wp2_with fail
     exact ⟨⟨i + 1, by simp, by omega, by omega, HE5, HX5⟩, by simp only [intOf]; omega⟩
    ·rw [List.concat_eq_append] at HP HB
     obtain ⟨j1, rfl⟩ : ∃ j1, j = j1 + 1 := ⟨j - 1, by have h := HP.out.1; rw [List.length_append] at h; simp at h; omega⟩
     have HJ := Lib.hid (show j1 = P.length by have h := HP.out.1; rw [List.length_append] at h; simp at h; omega)
     have hyS : y ∈ sortI lt (R.take i) := by rw [← HP.out.2.1]; simp
     have hji : j1 < i := by
      have h1 := congrArg List.length HP.out.2.1
      rw [HLE.out.1] at h1
      simp only [List.length_append, List.length_cons, List.length_nil] at h1
      have := HJ.out
      omega
     have hlen : (P ++ [y] ++ x :: P2 ++ R.drop (i + 1)).length = n := by
      have h1 := congrArg List.length HP.out.2.1
      rw [HLE.out.1] at h1
      have h2 := HLE.out.2
      simp only [List.length_append, List.length_cons, List.length_nil] at h1 h2 ⊢
      omega
     have hj0 : (0 : Int) < (j1 : Nat) + 1 := by omega
     have hn1 : ((j1 : Nat) : Int) + 1 < (n : Nat) := by omega
     have hn0 : ((j1 : Nat) : Int) < (n : Nat) := by omega
     have c0 : wr.cell? ⟨g, j1, none⟩ = some (.int .i64 (y : Nat)) := by
      have hjl : j1 < (P ++ [y] ++ x :: P2 ++ R.drop (i + 1)).length := by rw [hlen]; omega
      rw [HB.out.get hjl]
      have hh := HJ.out
      subst hh
      simp
     have c1 : wr.cell? ⟨g, j1 + 1, none⟩ = some (.int .i64 (x : Nat)) := by
      have hjl : j1 + 1 < (P ++ [y] ++ x :: P2 ++ R.drop (i + 1)).length := by rw [hlen]; omega
      rw [HB.out.get hjl]
      have hh := HJ.out
      subst hh
      simp
     have HCL := Lib.hid (HCC.out x HXI.out.2.2 y (HMM.out y hyS))
     have HLN := Lib.hid (And.intro hlen hji)
     obtain ⟨cv, hcv⟩ : ∃ c, cm x y = c := ⟨_, rfl⟩
     rw [hcv] at HCL
     have HCV := Lib.hid hcv
     clear hyS hji hlen hcv
     have y0 : ∀ w', EOn (fun _ => True) wr w' → w'.cell? ⟨g, j1, none⟩ = some (.int .i64 (y : Nat)) := fun w' hx => hx.cell trivial c0
     have y1 : ∀ w', EOn (fun _ => True) wr w' → w'.cell? ⟨g, j1 + 1, none⟩ = some (.int .i64 (x : Nat)) := fun w' hx => hx.cell trivial c1
     clear c0 c1
     go_wp2_with fail
     refine wp_lex (fun _ => True) [true, true, true, true, true, true, true, true, true, true, true, true, true, true, false, true, true] (by kernel_rfl) (by kernel_rfl) ?_
     repeat first
      | refine wpG_move' ?_
      | refine wpG_assign' ?_
      | refine wpG_val' ?_
      | refine wpG_no' ?_
     refine wpG_do (by rfl) (fun w5 hx5 K hK => ?_)
     go_wp2_with fail
     refine (HCL.out w5 (HY.out.trans (ext_grown hx5 (some g)))).mono ?_
     rintro e w6 ⟨rfl, hx6⟩
     refine hK _ _ ⟨EOn.of_ext hx6, ?_⟩
     clear hK
     by_cases hneg : cv < 0
     ·have hdn : decide (cv < 0) = true := decide_eq_true hneg
      repeat first
       | refine wpG_move' ?_
       | refine wpG_assign' ?_
       | refine wpG_val' ?_
       | refine wpG_no' ?_
      refine wpG_end (fun w7 hx7 => ?_)
      have hx8 := (hx5.trans hx6).trans hx7
      replace y0 := fun w' hx => y0 w' (EOn.trans (EOn.of_ext hx8) hx)
      replace y1 := fun w' hx => y1 w' (EOn.trans (EOn.of_ext hx8) hx)
      have HA7 := Lib.hid (show ArrI w7 g (P ++ [y] ++ x :: P2 ++ R.drop (i + 1)) post from hx8.blk HB.out)
      have HX7 := Lib.hid (HY.out.trans (ext_grown hx8 (some g)))
      clear hx5 hx6 hx7 hx8 HB HY
      go_wp2_with fail
      refine gQ_normal ?_
      go_wp2_with fail
      refine wp_reck (fun _ => True) [0, 1, 2, 3, 4, 5, 6, 7, 8, 10, 11, 12] [9, 13, 14, 15, 16, 17] [true, true] (by kernel_rfl) (by kernel_rfl) (by simp only [List.map_cons, List.map_nil, nth]; rfl) (by simp only [List.map_cons, List.map_nil, nth]; rfl) (fun wq hxq => ?_)
      repeat first
       | refine wpP_move' ?_
       | refine wpP_val' ?_
      refine wpP_end ?_
      replace y0 := fun w' hx => y0 w' (EOn.trans (EOn.of_ext hxq) hx)
      replace y1 := fun w' hx => y1 w' (EOn.trans (EOn.of_ext hxq) hx)
      replace HA7 := Lib.hid (show ArrI wq g _ post from hxq.blk HA7.out)
      replace HX7 := Lib.hid (HX7.out.trans (ext_grown hxq (some g)))
      clear hxq
      repeat first
       | refine wpG_move' ?_
       | refine wpG_assign' ?_
       | refine wpG_val' ?_
       | refine wpG_no' ?_
      refine wpG_end (fun w9 hx9 => ?_)
      have hA := show ArrI w9 g _ post from hx9.blk HA7.out
      have hG := HX7.out.trans (ext_grown hx9 (some g))
      clear hx9 y0 y1 HA7 HX7
      have hl1 : j1 + 1 < (P ++ [y] ++ x :: P2 ++ R.drop (i + 1)).length := by rw [HLN.out.1]; have := HLN.out.2; omega
      have hA1 := hA.set hl1 y
      have hl0 : j1 < ((P ++ [y] ++ x :: P2 ++ R.drop (i + 1)).set (j1 + 1) y).length := by rw [List.length_set]; omega
      have hA2 := hA1.set hl0 x
      have hsw : ((P ++ [y] ++ x :: P2 ++ R.drop (i + 1)).set (j1 + 1) y).set j1 x = P ++ x :: (y :: P2) ++ R.drop (i + 1) := by
       have hh := HJ.out
       subst hh
       simp
      rw [hsw] at hA2
      have hG2 := hG.trans (grown_cell w9 g (j1 + 1) (.int .i64 (y : Nat)))
      have hG3 := hG2.trans (grown_cell _ g j1 (.int .i64 (x : Nat)))
      have HA2 := Lib.hid hA2
      have HG3 := Lib.hid hG3
      have c1 : w9.cell? ⟨g, j1 + 1, none⟩ = some (.int .i64 _) := hA.get hl1
      have f1 := frz_blk hA (j1 + 1)
      have c0 := hA1.get hl0
      have f0 := frz_blk hA1 j1
      go_wp2_with fail
      refine gQ_normal ?_
      go_wp2_with fail
      go_roundw
      case rel => exact ⟨j1, P, y :: P2, by simp, Lib.hid ⟨HJ.out, by rw [← HP.out.2.1]; simp, fun z hz => by
       rcases List.mem_cons.1 hz with rfl | hz
       ·rw [← HLT.out]; show decide (cm x z < 0) = true; rw [HCV.out]; exact hdn
       ·exact HP.out.2.2 z hz⟩, HA2, HG3⟩
      case measure => simp [intOf]
     ·have hdn : decide (cv < 0) = false := decide_eq_false hneg
      repeat first
       | refine wpG_move' ?_
       | refine wpG_assign' ?_
       | refine wpG_val' ?_
       | refine wpG_no' ?_
      refine wpG_end (fun w7 hx7 => ?_)
      have hx8 := (hx5.trans hx6).trans hx7
      have HE5 := Lib.hid (show ArrI w7 g (sortI lt (R.take (i + 1)) ++ R.drop (i + 1)) post from by
       have hlxy : lt x y = false := by rw [← HLT.out]; show decide (cm x y < 0) = false; rw [HCV.out]; exact hdn
       rw [HXI.out.2.1, sortI_snoc, ← HP.out.2.1, insB_at HP.out.2.2 (.inr ⟨y, P, rfl, hlxy⟩)]
       exact hx8.blk HB.out)
      have HX5 := Lib.hid (HY.out.trans (ext_grown hx8 (some g)))
      clear hx5 hx6 hx7 hx8 HB HY y0 y1
      go_wp2_with fail
      refine gQ_normal ?_
      go_wp2_with fail
      exact ⟨⟨i + 1, by simp, by omega, by omega, HE5, HX5⟩, by simp only [intOf]; omega⟩
  ·have hnI2 : ¬ ((i : Nat) : Int) < (n : Nat) := by omega
   have HEND := Lib.hid (show ArrI wr g (sortI lt R) post by
    have hRn := HN.out
    have e1 : R.take i = R := List.take_of_length_le (by omega)
    have e2 : R.drop i = [] := List.drop_of_length_le (by omega)
    have := HA.out
    rw [e1, e2, List.append_nil] at this
    exact this)
   clear HA
   go_wp2_with fail
   refine bodyPost_end (results_none rfl _ _ _) rfl ?_
   exact ⟨rfl, HEND.out, HX.out⟩
end Go.Proofs.YtokeamebcdhnpaaGreatDoor
end

section
namespace Go.Proofs.YtokeamebcdhnpaaGreatDoor
open Go.RowKit Go.Rp Go.Shelf Go.Maps Go.Cl

/-- A row of numbers of the call's own. -/
def RowI (B : Nat) (W : World) (v : Value) (R : List Nat) : Prop :=
 (R = [] ∧ v = .slice none 0 0) ∨ ∃ g cap post, v = .slice (some ⟨g, 0, none⟩) R.length cap ∧ R.length ≤ cap ∧ B ≤ g ∧ ArrI W g R post
theorem RowI.of_own {W : World} {B : Nat} {v : Value} {l : List Nat} (h : W.ownsRow B 3 1 v l.length (l.map fun n => Value.int .i64 (n : Nat))) : RowI B W v l := by
 rcases h.2 with ⟨e, h0⟩ | ⟨g, cap, cur, e, hb, hgb, hcap, _, hcs, htk⟩
 ·exact .inl ⟨List.length_eq_zero_iff.1 h0, e⟩
 ·refine .inr ⟨g, cap, cur.toList.drop l.length, e, hcap, hb, ?_⟩
  unfold ArrI
  rw [hgb, ← htk]
  simp
theorem RowI.ext {W W' : World} {B : Nat} {v : Value} {l : List Nat} (h : RowI B W v l) (hx : Ext W W') : RowI B W' v l := by
 rcases h with h | ⟨g, cap, post, e, h1, h2, h3⟩
 ·exact .inl h
 ·exact .inr ⟨g, cap, post, e, h1, h2, hx.blk h3⟩
theorem RowI.low {W : World} {B B' : Nat} {v : Value} {l : List Nat} (h : RowI B W v l) (hb : B' ≤ B) : RowI B' W v l := by
 rcases h with h | ⟨g, cap, post, e, h1, h2, h3⟩
 ·exact .inl h
 ·exact .inr ⟨g, cap, post, e, h1, Nat.le_trans hb h2, h3⟩
theorem RowI.opened {W : World} {B : Nat} {v : Value} {l : List Nat} (h : RowI B W v l) : ∃ p cap, v = .slice p l.length cap ∧ l.length ≤ cap ∧ (l ≠ [] → ∃ g, p = some ⟨g, 0, none⟩ ∧ ∀ i (h : i < l.length), W.cell? ⟨g, i, none⟩ = some (.int .i64 (l[i] : Nat))) := by
 rcases h with ⟨rfl, rfl⟩ | ⟨g, cap, post, e, h1, h2, h3⟩
 ·exact ⟨none, 0, rfl, Nat.le_refl _, fun h => absurd rfl h⟩
 ·exact ⟨_, cap, e, h1, fun _ => ⟨g, rfl, fun i hi => h3.get hi⟩⟩
set_option maxRecDepth 100000 in
set_option maxHeartbeats 4000000 in
theorem c_insI0 (kb : Nat) (w : World) : Calls Tryz.prog 96 #[.slice none 0 0, .int .i64 0, .int .i64 0, cmpI kb] w fun e w' => e = .returned (.tuple #[]) ∧ w' = w := by
 go_enter Tryz.func96, Tryz.ntmps96
 go_wp2_with fail
 go_loopw [8] (fun iv W => iv = .int .i64 1 ∧ W = w) (fun _ _ => 0)
 case atStart => exact ⟨rfl, rfl⟩
 case round =>
  obtain ⟨rfl, rfl⟩ := hrel
  go_wp2_with fail
  refine bodyPost_end (results_none rfl _ _ _) rfl ?_
  exact ⟨rfl, rfl⟩
theorem c_insR (v : Value) (kb : Nat) (cm : Nat → Nat → Int) (R : List Nat) (w W0 : World) (B : Nat) (h : RowI B w v R) (hl : R.length ≤ 100) (hx : W0.grownBy w v.ownBlock)
  (HC : ∀ x ∈ R, ∀ y ∈ R, ∀ w', W0.grownBy w' v.ownBlock → Calls Tryz.prog 49 #[.int .i64 (x : Nat), .int .i64 (y : Nat), .pointer (some ⟨kb, 0, none⟩)] w' fun e w'' => e = .returned (.int .i64 (cm x y)) ∧ Ext w' w'') (hcm : ∀ x y, -1 ≤ cm x y ∧ cm x y ≤ 1) :
  Calls Tryz.prog 96 #[v, .int .i64 0, .int .i64 (R.length : Nat), cmpI kb] w fun e w' => e = .returned (.tuple #[]) ∧ RowI B w' v (sortI (fun x y => decide (cm x y < 0)) R) ∧ W0.grownBy w' v.ownBlock := by
 rcases h with ⟨rfl, rfl⟩ | ⟨g, cap, post, rfl, hc, hg, hA⟩
 ·refine (c_insI0 kb w).mono ?_
  rintro e w' ⟨rfl, rfl⟩
  exact ⟨rfl, .inl ⟨rfl, rfl⟩, hx⟩
 ·refine (c_insI g cap kb R.length post cm R w W0 hA rfl hc hl hx HC hcm).mono ?_
  rintro e w' ⟨rfl, h1, h2⟩
  exact ⟨rfl, .inr ⟨g, cap, post, by rw [sortI_len], by rw [sortI_len]; exact hc, hg, h1⟩, h2⟩
set_option maxRecDepth 100000 in
set_option maxHeartbeats 4000000 in
theorem c_stableI (v : Value) (kb n : Nat) (cm : Nat → Nat → Int) (R : List Nat) (w W0 : World) (B : Nat) (h : RowI B w v R) (hn : R.length = n) (hl : n < 20) (hx : W0.grownBy w v.ownBlock)
  (HC : ∀ x ∈ R, ∀ y ∈ R, ∀ w', W0.grownBy w' v.ownBlock → Calls Tryz.prog 49 #[.int .i64 (x : Nat), .int .i64 (y : Nat), .pointer (some ⟨kb, 0, none⟩)] w' fun e w'' => e = .returned (.int .i64 (cm x y)) ∧ Ext w' w'') (hcm : ∀ x y, -1 ≤ cm x y ∧ cm x y ≤ 1) :
  Calls Tryz.prog 69 #[v, .int .i64 (n : Nat), cmpI kb] w fun e w' => e = .returned (.tuple #[]) ∧ RowI B w' v (sortI (fun x y => decide (cm x y < 0)) R) ∧ W0.grownBy w' v.ownBlock := by
 have HI := Lib.hid (c_insR v kb cm R w W0 B h (by omega) hx HC hcm)
 rw [hn] at HI
 have h1 : ¬ (20 : Int) ≤ (n : Nat) := by omega
 have h2 : ¬ (20 : Int) < (n : Nat) := by omega
 generalize sortI (fun x y => decide (cm x y < 0)) R = S at HI ⊢
 clear h HC hcm hn hl
 go_enter Tryz.func69, Tryz.ntmps69
 go_wp2_with fail
 go_loopw [7, 8] (fun av bv W => av = .int .i64 0 ∧ bv = .int .i64 20 ∧ W = w) (fun _ _ _ => 0)
 case atStart => exact ⟨rfl, rfl, rfl⟩
 case round =>
  obtain ⟨rfl, rfl, rfl⟩ := hrel
  go_wp2_with fail
  refine HI.out.mono ?_
  rintro ev w2 ⟨rfl, hr2, hx2⟩
  have HR2 := Lib.hid (And.intro hr2 hx2)
  clear hr2 hx2 HI
  go_wp2_with fail
  go_loopw [6, 7, 8, 9] (fun kv _ _ _ W => kv = .int .i64 20 ∧ W = w2) (fun _ _ _ _ _ => 0)
  case atStart => exact ⟨rfl, rfl⟩
  case round =>
   obtain ⟨rfl, rfl⟩ := hrel
   go_wp2_with fail
   refine bodyPost_end (results_none rfl _ _ _) rfl ?_
   exact ⟨rfl, HR2.out.1, HR2.out.2⟩
set_option maxRecDepth 100000 in
set_option maxHeartbeats 4000000 in
theorem c_SortI (v : Value) (kb : Nat) (cm : Nat → Nat → Int) (R : List Nat) (w W0 : World) (B : Nat) (h : RowI B w v R) (hl : R.length < 20) (hx : W0.grownBy w v.ownBlock)
  (HC : ∀ x ∈ R, ∀ y ∈ R, ∀ w', W0.grownBy w' v.ownBlock → Calls Tryz.prog 49 #[.int .i64 (x : Nat), .int .i64 (y : Nat), .pointer (some ⟨kb, 0, none⟩)] w' fun e w'' => e = .returned (.int .i64 (cm x y)) ∧ Ext w' w'') (hcm : ∀ x y, -1 ≤ cm x y ∧ cm x y ≤ 1) :
  Calls Tryz.prog 48 #[v, cmpI kb] w fun e w' => e = .returned (.tuple #[]) ∧ RowI B w' v (sortI (fun x y => decide (cm x y < 0)) R) ∧ W0.grownBy w' v.ownBlock := by
 have HI := Lib.hid (c_stableI v kb R.length cm R w W0 B h rfl hl hx HC hcm)
 obtain ⟨p, cap, rfl, hcap, _⟩ := h.opened
 generalize sortI (fun x y => decide (cm x y < 0)) R = S at HI ⊢
 clear h HC hcm hl
 go_enter Tryz.func48, Tryz.ntmps48
 go_wp2_with fail
 refine HI.out.mono ?_
 rintro ev w2 ⟨rfl, hr2, hx2⟩
 have HR2 := Lib.hid (And.intro hr2 hx2)
 clear hr2 hx2 HI
 go_wp2_with fail
 refine bodyPost_end (results_none rfl _ _ _) rfl ?_
 exact ⟨rfl, HR2.out.1, HR2.out.2⟩
end Go.Proofs.YtokeamebcdhnpaaGreatDoor
end

section
namespace Go.Proofs.YtokeamebcdhnpaaGreatDoor
open Go.RowKit Go.Rp Go.Shelf Go.Maps Go.Cl

/-- A row of texts. -/
def TxtRow (w : World) (v : Value) (l : List ByteArray) : Prop :=
 ∃ p cap, v = .slice p l.length cap ∧ l.length ≤ cap ∧ (l ≠ [] → ∃ g, p = some ⟨g, 0, none⟩ ∧ ∀ i (h : i < l.length), w.cell? ⟨g, i, none⟩ = some (.string l[i]))
theorem TxtRow.ext {w w' : World} {v : Value} {l : List ByteArray} (h : TxtRow w v l) (hx : Ext w w') : TxtRow w' v l := by
 obtain ⟨p, cap, e, h1, h2⟩ := h
 refine ⟨p, cap, e, h1, fun hne => ?_⟩
 obtain ⟨g, e2, h3⟩ := h2 hne
 exact ⟨g, e2, fun i hi => hx.cell (h3 i hi)⟩
theorem HoldsFrom.off {B : Nat} {W : World} {u : Value} {K : List UInt8} (h : HoldsFrom B W u K) {W' : World} {g : Nat} (hg : W.grownBy W' (some g)) (hb : g < B) : HoldsFrom B W' u K := by
 obtain ⟨⟨p, cap, e, h1, h2⟩, h3⟩ := h
 refine ⟨⟨p, cap, e, h1, fun a ha i x hx => ?_⟩, h3⟩
 have h4 := h2 a ha i x hx
 subst ha
 have h5 := h3 a _ _ e
 have hbl : (a.add i).block = a.block := by unfold Addr.add; split <;> rfl
 have hlt : (a.add i).block < W.heap.size := by
  rcases Nat.lt_or_ge (a.add i).block W.heap.size with h | h
  ·exact h
  ·simp [World.cell?, Array.getElem?_eq_none h] at h4
 rw [World.cell?, hg.block _ hlt (by simp; omega)]
 exact h4
theorem HoldsFrom.ext {B : Nat} {W W' : World} {u : Value} {K : List UInt8} (h : HoldsFrom B W u K) (hx : Ext W W') : HoldsFrom B W' u K := ⟨holds_ext h.1 hx, h.2⟩
theorem HoldsFrom.low {B B' : Nat} {W : World} {u : Value} {K : List UInt8} (h : HoldsFrom B W u K) (hb : B' ≤ B) : HoldsFrom B' W u K := ⟨h.1, fun a n c e => Nat.le_trans hb (h.2 a n c e)⟩
theorem add_block (a : Addr) (i : Nat) : (a.add i).block = a.block := by unfold Addr.add; split <;> rfl
theorem cell_lt {W : World} {a : Addr} {v : Value} (h : W.cell? a = some v) : a.block < W.heap.size := by
 rcases Nat.lt_or_ge a.block W.heap.size with h1 | h1
 ·exact h1
 ·simp [World.cell?, Array.getElem?_eq_none h1] at h
theorem HoldsFrom.lt {B : Nat} {W : World} {a : Addr} {n c : Nat} {K : List UInt8} (h : HoldsFrom B W (.slice (some a) n c) K) (hK : K ≠ []) : a.block < W.heap.size := by
 obtain ⟨⟨p, cap, e, h1, h2⟩, h3⟩ := h
 cases e
 cases K with
 | nil => exact absurd rfl hK
 | cons x K =>
  have h4 := cell_lt (h2 a rfl 0 x rfl)
  rwa [add_block] at h4
/-- Only what stands in another block may change. -/
theorem HoldsFrom.but {B : Nat} {W : World} {u : Value} {K : List UInt8} (h : HoldsFrom B W u K) {W' : World} {r : Option Nat} (hg : W.grownBy W' r) (hb : K ≠ [] → ∀ a n c, u = .slice (some a) n c → r ≠ some a.block) : HoldsFrom B W' u K := by
 obtain ⟨⟨p, cap, e, h1, h2⟩, h3⟩ := h
 refine ⟨⟨p, cap, e, h1, fun a ha i x hx => ?_⟩, h3⟩
 have h4 := h2 a ha i x hx
 subst ha
 have h5 := hb (by intro e; subst e; simp at hx) a _ _ e
 have hlt := cell_lt h4
 rw [World.cell?, hg.block _ hlt (by rw [add_block]; exact fun e => h5 e.symm)]
 exact h4
/-- The keys so far: none of them lies in the row's block. -/
structure KeysAt (B : Nat) (W : World) (gk n : Nat) (Ks : List (List UInt8)) (rv : Value) : Prop where
 ex : ∃ vs : List Value, vs.length = Ks.length ∧ Ks.length ≤ n ∧ W.heap[gk]? = some (.cells (vs ++ List.replicate (n - Ks.length) (Value.slice none 0 0)).toArray 34 (0, 0)) ∧ ∀ (i : Nat) u K, vs[i]? = some u → Ks[i]? = some K → HoldsFrom B W u K ∧ (K ≠ [] → ∀ a n c, u = .slice (some a) n c → rv.ownBlock ≠ some a.block)
theorem made_one (z : Value) (n : Nat) (hz : z.cells = #[z]) : madeCells z.cells (n * 1) = (List.replicate n z).toArray := by
 rw [hz]
 apply Array.ext'
 simp only [madeCells, Array.toList_map, Array.toList_range, Nat.mul_one]
 rw [List.eq_replicate_iff]
 refine ⟨by simp, fun b hb => ?_⟩
 obtain ⟨x, _, rfl⟩ := List.mem_map.1 hb
 simp [Nat.mod_one]
theorem Tryz.infoInt : (Tryz.prog.info? 3).map (fun i => (i.zero, i.size, i.bytes)) = some (some (.int .i64 0), 1, 8) := by kernel_rfl
theorem run_mk (n : Nat) (w : World) (hn : n ≤ 1000) : (Instr.makeSlice 67 (.int .i64 (n : Nat)) (.int .i64 (n : Nat))).run Tryz.prog w = .ok (.slice (some ⟨w.heap.size, 0, none⟩) n n) (w.alloc (.cells (List.replicate n (Value.slice none 0 0)).toArray 34)) := by
 obtain ⟨i0, hi0, hz0, hz1, hz3⟩ := info_parts Tryz.infoSec
 rw [run_make w 67 34 i0 (.slice none 0 0) Tryz.underlying67 hi0 hz0 .i64 .i64 (n : Nat) (n : Nat) (by omega) (by omega) (by rw [hz3]; omega) (by omega), hz1, Int.toNat_natCast, made_one _ _ rfl]
theorem KeysAt.ext {B : Nat} {W W' : World} {gk n : Nat} {Ks : List (List UInt8)} {rv : Value} (h : KeysAt B W gk n Ks rv) (hx : Ext W W') : KeysAt B W' gk n Ks rv := by
 obtain ⟨vs, h1, h2, h3, h4⟩ := h.ex
 exact ⟨vs, h1, h2, hx.blk h3, fun i u K a b => ⟨(h4 i u K a b).1.ext hx, (h4 i u K a b).2⟩⟩
theorem KeysAt.put {B : Nat} {W : World} {gk n : Nat} {Ks : List (List UInt8)} {rv : Value} (h : KeysAt B W gk n Ks rv) (hb : gk < B) (hn : Ks.length < n) {u : Value} {K : List UInt8} (hu : HoldsFrom B W u K) (hr : ∀ a n c, u = .slice (some a) n c → rv.ownBlock ≠ some a.block) : KeysAt B (W.setCell ⟨gk, Ks.length, none⟩ u) gk n (Ks ++ [K]) rv := by
 obtain ⟨vs, h1, h2, h3, h4⟩ := h.ex
 have hg := grown_cell W gk Ks.length u
 refine ⟨vs ++ [u], by simp [h1], by simp; omega, ?_, fun i z L a b => ?_⟩
 ·rw [set_blk h3 Ks.length]
  congr 2
  obtain ⟨d, hd⟩ : ∃ d, n - Ks.length = d + 1 := ⟨n - Ks.length - 1, by omega⟩
  have hd2 : n - (Ks ++ [K]).length = d := by simp; omega
  rw [hd, hd2, ← h1]
  simp [List.replicate_succ]
 ·by_cases hi : i < vs.length
  ·rw [List.getElem?_append_left hi] at a
   rw [List.getElem?_append_left (by omega)] at b
   exact ⟨(h4 i z L a b).1.off hg hb, (h4 i z L a b).2⟩
  ·have hi2 : i = vs.length := by
    have := (List.getElem?_eq_some_iff.1 a).1
    simp at this
    omega
   subst hi2
   rw [List.getElem?_append_right (Nat.le_refl _), Nat.sub_self] at a
   rw [h1, List.getElem?_append_right (Nat.le_refl _), Nat.sub_self] at b
   obtain rfl := Option.some.inj a
   obtain rfl := Option.some.inj b
   exact ⟨hu.off hg hb, fun _ => hr⟩
/-- The row of numbers grows. -/
theorem KeysAt.row {B : Nat} {W W' : World} {gk n : Nat} {Ks : List (List UInt8)} {rv rv' : Value} (h : KeysAt B W gk n Ks rv) (hg : W.grownBy W' rv.ownBlock) (hk : rv.ownBlock ≠ some gk) (hr : rv'.ownBlock = rv.ownBlock ∨ rv'.ownBlock = some W.heap.size) : KeysAt B W' gk n Ks rv' := by
 obtain ⟨vs, h1, h2, h3, h4⟩ := h.ex
 refine ⟨vs, h1, h2, (hg.block gk (blk_lt h3) (fun e => hk e.symm)).trans h3, fun i u K a b => ?_⟩
 obtain ⟨h5, h6⟩ := h4 i u K a b
 refine ⟨h5.but hg h6, fun hK a n c e => ?_⟩
 rcases hr with hr | hr
 ·rw [hr]
  exact h6 hK a n c e
 ·rw [hr]
  intro e2
  subst e
  have h7 := h5.lt hK
  rw [← Option.some.inj e2] at h7
  omega
theorem KeysAt.at {B : Nat} {W : World} {gk n : Nat} {Ks : List (List UInt8)} {rv : Value} (h : KeysAt B W gk n Ks rv) (i : Nat) (hi : i < Ks.length) : ∃ u, W.cell? ⟨gk, i, none⟩ = some u ∧ Lib.HoldsBytes W u Ks[i] := by
 obtain ⟨vs, h1, h2, h3, h4⟩ := h.ex
 have hi2 : i < vs.length := by omega
 refine ⟨vs[i], ?_, (h4 i _ _ (List.getElem?_eq_getElem hi2) (List.getElem?_eq_getElem hi)).1.1⟩
 rw [cell_blk h3 i, List.getElem?_toArray, List.getElem?_append_left hi2, List.getElem?_eq_getElem hi2]
theorem KeysAt.spot {B : Nat} {W : World} {gk n : Nat} {Ks : List (List UInt8)} {rv : Value} (h : KeysAt B W gk n Ks rv) (hi : Ks.length < n) : W.cell? ⟨gk, Ks.length, none⟩ = some (.slice none 0 0) ∧ W.frozen? ⟨gk, Ks.length, none⟩ = false := by
 obtain ⟨vs, h1, h2, h3, h4⟩ := h.ex
 refine ⟨?_, frz_blk h3 _⟩
 rw [cell_blk h3, List.getElem?_toArray, List.getElem?_append_right (by omega), List.getElem?_replicate, if_pos (by omega)]
def intsN (l : List Nat) : List Value := l.map fun n => Value.int .i64 (n : Nat)
set_option maxRecDepth 100000 in
set_option maxHeartbeats 8000000 in
theorem c_Sort (v : Value) (l : List ByteArray) (o : Ord) (w : World) (hT : TabsC w) (h : TxtRow w v l) (hl : l.length < 20) (hs : ∀ s ∈ l, s.size ≤ 200) (ho : 1 ≤ o.level ∧ o.level ≤ 4) :
  Calls Tryz.prog 22 #[v, ordV o] w fun e w' => ∃ u, e = .returned u ∧ RowI w.heap.size w' u (sortI (fun x y => decide (cmpB (keyT o (l.getD x ⟨#[]⟩)) (keyT o (l.getD y ⟨#[]⟩)) < 0)) (List.range l.length)) ∧ Ext w w' := by
 have hHI : Hid (∃ i0, Tryz.prog.info? 3 = some i0 ∧ i0.zero = some (.int .i64 0) ∧ i0.size = 1 ∧ i0.bytes = 8) := by
  obtain ⟨i0, hi, hz0, hz1, hz2⟩ := info_parts Tryz.infoInt
  exact ⟨i0, hi, hz0, hz1, hz2⟩
 have HCK := Lib.hid (fun w => c_Check o w)
 rw [if_pos ho] at HCK
 have HS := Lib.hid hs
 have HW := Lib.hid h
 obtain ⟨p, cap, rfl, hcap, hp⟩ := h
 have HP := Lib.hid hp
 clear hp hs
 go_enter Tryz.func22, Tryz.ntmps22
 go_wp2_with fail
 have hx0 := (Ext.refl w).alloc (.cells #[.int .i64 o.level, .bool o.shift, .bool o.back, .bool o.great] 24)
 have hb0 := World.alloc_heap_new w (.cells #[.int .i64 o.level, .bool o.shift, .bool o.back, .bool o.great] 24)
 generalize w.alloc (.cells #[.int .i64 o.level, .bool o.shift, .bool o.back, .bool o.great] 24) = W0 at hx0 hb0 ⊢
 obtain ⟨ob, hob⟩ : ∃ ob, w.heap.size = ob := ⟨_, rfl⟩
 rw [hob] at hb0
 have HOB := Lib.hid (And.intro hob hb0)
 simp only [hob]
 clear hob hb0
 refine (HCK.out _).mono ?_
 rintro e w1 ⟨rfl, hx1⟩
 have HX01 := Lib.hid hx1
 have HX1 := Lib.hid (hx0.trans hx1)
 clear hx0 hx1
 go_wp2_with fail
 rw [run_mk _ _ (by omega)]
 simp only [Result.andThen]
 rw [Oper.upon_value]
 go_wp2_with fail
 have hk1 := World.alloc_heap_new w1 (.cells (List.replicate l.length (Value.slice none 0 0)).toArray 34)
 have hx2 := (Ext.refl w1).alloc (.cells (List.replicate l.length (Value.slice none 0 0)).toArray 34)
 rw [show (List.replicate l.length (Value.slice none 0 0)).toArray = Array.replicate l.length (Value.slice none 0 0) by simp] at hk1 hx2
 have hsz1 : w1.heap.size + 1 = (w1.alloc (.cells (Array.replicate l.length (Value.slice none 0 0)) 34)).heap.size := (World.size_alloc ..).symm
 obtain ⟨gk, hgk⟩ : ∃ gk, w1.heap.size = gk := ⟨_, rfl⟩
 rw [hgk] at hk1 hsz1 ⊢
 generalize w1.alloc (.cells (Array.replicate l.length (Value.slice none 0 0)) 34) = w2 at hk1 hx2 hsz1 ⊢
 have hk2 := World.alloc_heap_new w2 (.cells #[Value.slice (some ⟨gk, 0, none⟩) l.length l.length] 67)
 have hx3 := (Ext.refl w2).alloc (.cells #[Value.slice (some ⟨gk, 0, none⟩) l.length l.length] 67)
 have hsz2 := World.size_alloc w2 (.cells #[Value.slice (some ⟨gk, 0, none⟩) l.length l.length] 67)
 rw [← hsz1] at hk2 hsz2
 have hk1' := hx3.blk hk1
 generalize w2.alloc (.cells #[Value.slice (some ⟨gk, 0, none⟩) l.length l.length] 67) = W1 at hk2 hx3 hsz2 hk1' ⊢
 have HWG := Lib.hid (show w.heap.size ≤ gk from by rw [← hgk]; exact HX1.out.sz)
 have HSZ := Lib.hid hsz2
 have HK := Lib.hid (show KeysAt W1.heap.size W1 gk l.length [] (.slice none 0 0) from ⟨[], rfl, by simp, by simpa using hk1', fun i u K a => by simp at a⟩)
 have HBX := Lib.hid hk2
 have HX3 := Lib.hid (HX1.out.trans (hx2.trans hx3))
 have HB1 := Lib.hid (show W1.heap[ob]? = some (.cells #[.int .i64 o.level, .bool o.shift, .bool o.back, .bool o.great] 24 (0, 0)) from (HX01.out.trans (hx2.trans hx3)).blk HOB.out.2)
 have HOG := Lib.hid (show ob < gk by rw [← hgk]; exact Nat.lt_of_lt_of_le (blk_lt HOB.out.2) HX01.out.sz)
 generalize hkb : gk + 1 = kb at HSZ HBX ⊢
 have HKB := Lib.hid hkb
 clear hk1 hx2 hsz1 hgk hk2 hx3 hk1' hsz2 hkb
 have hnI : ((l.length : Nat) : Int) < 20 := by omega
 obtain ⟨bs, hbs⟩ : ∃ bs, W1.heap.size = bs := ⟨_, rfl⟩
 have HBS := Lib.hid hbs
 rw [hbs] at HK
 clear hbs
 go_wp2_with fail
 go_loopw [6, 7, 8, 17] (fun rv _ _ iv W => ∃ i : Nat, iv = .int .i64 (i : Nat) ∧ i ≤ l.length ∧ Hid (W.ownsRow bs 3 1 rv i (intsN (List.range i))) ∧ Hid (KeysAt bs W gk l.length ((l.take i).map (keyT o)) rv) ∧ Hid (W1.grownBy W (some gk))) (fun _ _ _ iv _ => l.length + 1 - (intOf iv).toNat)
 case atStart => exact ⟨0, rfl, by omega, Lib.hid (World.ownsRow_nil _ _ _ _), HK, Lib.hid (World.grownBy.refl _ _)⟩
 case round =>
  clear HK
  obtain ⟨i, rfl, hi, HR, HK, HG⟩ := hrel
  obtain ⟨Wi, rfl⟩ : ∃ Wi, Wi = wr := ⟨wr, rfl⟩
  have HXW := Lib.hid (show Ext w Wi from Below.grown HX3.out HG.out HX3.out.sz (fun k e => by cases e; exact HWG.out))
  have HBW := Lib.hid (show Wi.heap[kb]? = _ ∧ Wi.heap[ob]? = _ from ⟨(HG.out.block kb (blk_lt HBX.out) (by have := HKB.out; simp; omega)).trans HBX.out, (HG.out.block ob (blk_lt HB1.out) (by have := HOG.out; simp; omega)).trans HB1.out⟩)
  by_cases hlt : i < l.length
  ·have hI : ((i : Nat) : Int) < (l.length : Nat) := by omega
   have hd : decide (i < l.length) = true := decide_eq_true hlt
   have HWi := Lib.hid (HW.out.ext HXW.out)
   obtain ⟨g, rfl, _⟩ := HP.out (by intro e; subst e; simp at hlt)
   have hcs : Wi.cell? ⟨g, i, none⟩ = some (.string l[i]) := by
    obtain ⟨p, c, e, _, h2⟩ := HWi.out
    obtain ⟨g2, e2, h3⟩ := h2 (by intro e; subst e; simp at hlt)
    simp only [Value.slice.injEq] at e
    rw [e2] at e
    have := (Option.some.inj e.1)
    cases this
    exact h3 i hlt
   obtain ⟨s, hs⟩ : ∃ s, l[i] = s := ⟨_, rfl⟩
   rw [hs] at hcs
   have HSS := Lib.hid (show s.size ≤ 200 ∧ l.take (i + 1) = l.take i ++ [s] from ⟨HS.out s (by rw [← hs]; exact List.getElem_mem hlt), by rw [← hs]; exact List.take_succ_eq_append_getElem hlt⟩)
   clear hs
   go_wp2_with fail
   clear hcs
   have q0 : ∀ w', EOn (fun _ => True) Wi w' → w'.cell? ⟨ob, 0, none⟩ = some (.int .i64 o.level) := fun w' hx => hx.cell trivial ((cell_blk HBW.out.2 0).trans rfl)
   have q1 : ∀ w', EOn (fun _ => True) Wi w' → w'.cell? ⟨ob, 1, none⟩ = some (.bool o.shift) := fun w' hx => hx.cell trivial ((cell_blk HBW.out.2 1).trans rfl)
   have q2 : ∀ w', EOn (fun _ => True) Wi w' → w'.cell? ⟨ob, 2, none⟩ = some (.bool o.back) := fun w' hx => hx.cell trivial ((cell_blk HBW.out.2 2).trans rfl)
   have q3 : ∀ w', EOn (fun _ => True) Wi w' → w'.cell? ⟨ob, 3, none⟩ = some (.bool o.great) := fun w' hx => hx.cell trivial ((cell_blk HBW.out.2 3).trans rfl)
   have q4 : ∀ w', EOn (fun _ => True) Wi w' → w'.cell? ⟨kb, 0, none⟩ = some (.slice (some ⟨gk, 0, none⟩) l.length l.length) := fun w' hx => hx.cell trivial ((cell_blk HBW.out.1 0).trans rfl)
   refine wp_lex (fun _ => True) [true, true, true, true, false] (by kernel_rfl) (by kernel_rfl) ?_
   repeat first
    | refine wpG_move' ?_
    | refine wpG_assign' ?_
    | refine wpG_val' ?_
    | refine wpG_no' ?_
   refine wpG_do (by rfl) (fun w5 hx5 K hK => ?_)
   go_wp2_with fail
   refine (c_Key s o w5 (hT.ext (HXW.out.trans hx5)) HSS.out.1).mono ?_
   rintro e w6 ⟨u, rfl, hu, hx6⟩
   obtain ⟨up, un, uc, rfl⟩ : ∃ up un uc, u = .slice up un uc := by
    obtain ⟨⟨p, c, e, _⟩, _⟩ := hu
    exact ⟨_, _, _, e⟩
   refine hK _ _ ⟨EOn.of_ext hx6, ?_⟩
   clear hK q0 q1 q2 q3 q4
   refine wpG_end (fun w7 hx7 => ?_)
   have hx8 := hx5.trans (hx6.trans hx7)
   have hK7 := HK.out.ext hx8
   have hlt2 : (List.map (keyT o) (l.take i)).length < l.length := by rw [List.length_map, List.length_take]; omega
   have hle2 : (List.map (keyT o) (l.take i)).length = i := by rw [List.length_map, List.length_take]; omega
   obtain ⟨e7, f7⟩ := hK7.spot hlt2
   have hbs7 : gk < bs := by rw [← HBS.out]; have := HKB.out; have := HSZ.out; omega
   have hu7 : HoldsFrom bs w7 (.slice up un uc) (keyT o s) := (hu.low (by rw [← HBS.out]; exact Nat.le_trans HG.out.size hx5.sz)).ext hx7
   have hR7 := ownsRow_ext HR.out hx8
   have hK8 := hK7.put hbs7 hlt2 hu7 (fun a n c e e2 => by
    have h1 := (HR.out.lt _ e2).2
    have h2 := hu.2 a n c e
    have h3 := hx5.sz
    omega)
   rw [show List.map (keyT o) (l.take i) ++ [keyT o s] = List.map (keyT o) (l.take (i + 1)) by rw [HSS.out.2, List.map_append]; rfl] at hK8
   rw [hle2] at e7 f7 hK8
   have hgr := grown_cell w7 gk i (.slice up un uc)
   have hR8 := hR7.kept hgr (by
    rcases hR7.2 with ⟨e, _⟩ | ⟨g, cap, cur, e, h1, _⟩
    ·exact .inl (by rw [e]; rfl)
    ·refine .inr fun e2 => ?_
     rw [e] at e2
     have e3 : g = gk := Option.some.inj e2
     rw [e3] at h1
     exact absurd hbs7 (Nat.not_lt.2 h1))
   have HR8 := Lib.hid (And.intro hR8 (And.intro hK8 ((HG.out.trans (ext_grown hx8 _)).trans hgr)))
   clear hx5 hx6 hx7 hx8 hK7 hlt2 hle2 hbs7 hu7 hK8 hR7 hgr hR8 hu HR HK HG
   obtain ⟨i0, hi0, hz0, hz1, hz3⟩ := hHI.out
   go_wp2_with fail
   refine gQ_normal ?_
   clear e7 f7
   generalize w7.setCell ⟨gk, i, none⟩ (Value.slice up un uc) = w8 at HR8 ⊢
   have HWS := Lib.hid (And.intro (World.alloc_heap_new w8 (.cells #[.int .i64 (i : Nat)] 3)) ((Ext.refl w8).alloc (.cells #[.int .i64 (i : Nat)] 3)))
   go_wp2_with (at_builtin; refine Hid.out ?_)
   refine Lib.hid ?_
   have hown1 := ownsRow_ext HR8.out.1 HWS.out.2
   have hK9 := HR8.out.2.1.ext HWS.out.2
   have hgr9 := HR8.out.2.2.trans (ext_grown HWS.out.2 (some gk))
   have hnew := HWS.out.1
   have hsz9 := World.size_alloc w8 (.cells #[.int .i64 (i : Nat)] 3)
   generalize w8.alloc (.cells #[.int .i64 (i : Nat)] 3) = w9 at *
   have hbs9 : bs ≤ w9.heap.size := by rw [← HBS.out]; exact hgr9.size
   refine wpList_append_own_at w9 rfl (.tmp 28) (.tmp 30) 42 rfl bs 3 i0 (.int .i64 0) 1 8 Tryz.underlying42 hi0 hz0 hz1 hz3 rfl (by decide) u6 i (intsN (List.range i)) rfl hown1 ⟨w8.heap.size, 0, none⟩ 1 1 [.int .i64 (i : Nat)] rfl rfl (fun j z hz => ?_) (by intro u hu; simp at hu; subst hu; rfl) (by unfold maxLen; omega) (by omega) hbs9 ?_
   ·have hadd : (⟨w8.heap.size, 0, none⟩ : Addr).add j = ⟨w8.heap.size, j, none⟩ := by unfold Addr.add; split <;> simp_all
    rw [hadd, cell_blk hnew j, List.getElem?_toArray]
    exact hz
   intro v' w10 g1 g2 _ g4
   have hnk : u6.ownBlock ≠ some gk := fun e => by
    have h1 := (hown1.lt _ e).1
    have h2 := HBS.out
    have h3 := HSZ.out
    have h4 := HKB.out
    omega
   have HR10 := Lib.hid (show w10.ownsRow bs 3 1 v' (i + 1) (intsN (List.range (i + 1))) ∧ KeysAt bs w10 gk l.length ((l.take (i + 1)).map (keyT o)) v' ∧ W1.grownBy w10 (some gk) from ⟨by rw [List.range_succ, intsN, List.map_append]; exact g1, hK9.row g2 hnk g4, ⟨g2.os.trans hgr9.os, g2.tape.trans hgr9.tape, g2.output.trans hgr9.output, Nat.le_trans hgr9.size g2.size, fun k hk hne => (g2.block k (Nat.lt_of_lt_of_le hk hgr9.size) (fun e => by
    have h1 := (hown1.lt _ e.symm).1
    have h2 := HBS.out
    omega)).trans (hgr9.block k hk hne)⟩⟩)
   clear hown1 hK9 hgr9 hnew hsz9 hbs9 g1 g2 g4 hnk HR8 HWS
   go_wp2_with fail
   exact ⟨⟨i + 1, by simp, by omega, Lib.hid HR10.out.1, Lib.hid HR10.out.2.1, Lib.hid HR10.out.2.2⟩, by simp only [intOf]; omega⟩
  ·have hI : ¬ ((i : Nat) : Int) < (l.length : Nat) := by omega
   have hd : decide (i < l.length) = false := decide_eq_false hlt
   obtain rfl : i = l.length := by omega
   rw [List.take_length] at HK
   have hlow : ∀ k, u6.ownBlock = some k → bs ≤ k := fun k e => (HR.out.lt _ e).1
   have hnk : u6.ownBlock ≠ some gk := fun e => by
    have h1 := hlow _ e
    have h2 := HBS.out
    have h3 := HSZ.out
    have h4 := HKB.out
    omega
   have hnb : some kb ≠ u6.ownBlock := fun e => by
    have h1 := hlow _ e.symm
    have h2 := HBS.out
    have h3 := HSZ.out
    omega
   have HC := Lib.hid (fun (x : Nat) (hx : x ∈ List.range l.length) (y : Nat) (hy : y ∈ List.range l.length) (w' : World) (hxw : Wi.grownBy w' u6.ownBlock) => by
    have hx2 := List.mem_range.1 hx
    have hy2 := List.mem_range.1 hy
    have hK' := HK.out.row hxw hnk (.inl rfl)
    obtain ⟨u, h1, h2⟩ := hK'.at x (by rw [List.length_map]; exact hx2)
    obtain ⟨v, h3, h4⟩ := hK'.at y (by rw [List.length_map]; exact hy2)
    have h5 := c_less kb gk l.length l.length x y _ _ u v w' ((cell_blk ((hxw.block kb (blk_lt HBW.out.1) hnb).trans HBW.out.1) 0).trans rfl) hx2 hy2 (by omega) h1 h3 h2 h4
    have e1 : (l.map (keyT o))[x]'(by rw [List.length_map]; exact hx2) = keyT o (l.getD x ⟨#[]⟩) := by simp [hx2]
    have e2 : (l.map (keyT o))[y]'(by rw [List.length_map]; exact hy2) = keyT o (l.getD y ⟨#[]⟩) := by simp [hy2]
    rw [e1, e2] at h5
    exact h5)
   have hbw : w.heap.size ≤ bs := by
    have h1 := HWG.out
    have h2 := HBS.out
    have h3 := HSZ.out
    have h4 := HKB.out
    omega
   have HS2 := Lib.hid (c_SortI u6 kb (fun x y => cmpB (keyT o (l.getD x ⟨#[]⟩)) (keyT o (l.getD y ⟨#[]⟩))) (List.range l.length) Wi Wi w.heap.size ((RowI.of_own (by rw [List.length_range]; exact HR.out)).low hbw) (by rw [List.length_range]; exact hl) (World.grownBy.refl _ _) HC.out (fun x y => cmpB_bounds _ _))
   have HXE := Lib.hid (show ∀ w', Wi.grownBy w' u6.ownBlock → Ext w w' from fun w' hg => Below.grown HXW.out hg HXW.out.sz (fun k e => Nat.le_trans hbw (hlow k e)))
   clear hlow hnk hnb HC hbw HR HK
   obtain ⟨SR, hSR⟩ : ∃ s, sortI (fun x y => decide (cmpB (keyT o (l.getD x ⟨#[]⟩)) (keyT o (l.getD y ⟨#[]⟩)) < 0)) (List.range l.length) = s := ⟨_, rfl⟩
   have HSR := Lib.hid hSR
   rw [hSR] at HS2
   clear hSR
   go_wp2_with fail
   refine HS2.out.mono ?_
   rintro e w9 ⟨rfl, hr9, hg9⟩
   have HR9 := Lib.hid (And.intro hr9 (HXE.out w9 hg9))
   clear hr9 hg9 HS2 HXE
   go_wp2_with fail
   exact ret_one rfl rfl rfl ⟨u6, rfl, by rw [HSR.out]; exact HR9.out.1, HR9.out.2⟩
end Go.Proofs.YtokeamebcdhnpaaGreatDoor
end

section
namespace Go.Proofs.YtokeamebcdhnpaaGreatDoor
open Go.RowKit Go.Rp Go.Shelf Go.Maps Go.Cl

/-- A row of numbers. -/
def NumRow (w : World) (v : Value) (l : List Nat) : Prop := ∃ p cap, v = .slice p l.length cap ∧ l.length ≤ cap ∧ (l ≠ [] → ∃ g, p = some ⟨g, 0, none⟩ ∧ ∀ i (h : i < l.length), w.cell? ⟨g, i, none⟩ = some (.int .i64 (l[i] : Nat)))
theorem NumRow.ext {w w' : World} {v : Value} {l : List Nat} (h : NumRow w v l) (hx : Ext w w') : NumRow w' v l := by
 obtain ⟨p, cap, e, h1, h2⟩ := h
 refine ⟨p, cap, e, h1, fun hne => ?_⟩
 obtain ⟨g, e2, h3⟩ := h2 hne
 exact ⟨g, e2, fun i hi => hx.cell (h3 i hi)⟩
set_option maxRecDepth 100000 in
set_option maxHeartbeats 4000000 in
theorem c_Places (v1 v2 : Value) (l1 l2 : List Nat) (bb : Bool) (w : World) (h1 : NumRow w v1 l1) (h2 : NumRow w v2 l2) (hb : bb = true ↔ l1 = l2) (hn : l1.length ≤ 1000000000) :
  Calls Tryz.prog 27 #[v1, v2] w fun e w' => e = .returned (.bool bb) ∧ Ext w w' := by
 obtain ⟨p1, cap1, rfl, hcap1, _⟩ := id h1
 obtain ⟨p2, cap2, rfl, hcap2, _⟩ := id h2
 by_cases hl : l1.length = l2.length
 ·have hlb : (((l1.length : Nat) : Int) != ((l2.length : Nat) : Int)) = false := by rw [hl]; simp
  have HL := Lib.hid hl
  clear hl
  go_enter Tryz.func27, Tryz.ntmps27
  go_wp2_with fail
  go_loopw [5] (fun k w' => ∃ i : Nat, k = .int .i64 (i : Nat) ∧ i ≤ l1.length ∧ Hid (∀ j (a : j < l1.length) (b : j < l2.length), j < i → l1[j] = l2[j]) ∧ Ext w w') (fun k _ => l1.length + 1 - (intOf k).toNat)
  case atStart => exact ⟨0, rfl, by omega, Lib.hid (fun j _ _ h => by omega), Ext.refl w⟩
  case round =>
   obtain ⟨i, rfl, hi, hsame, hx⟩ := hrel
   by_cases hlt : i < l1.length
   ·have hlt2 : i < l2.length := by have := HL.out; omega
    obtain ⟨q1, k1, e1, _, hc1⟩ := h1.ext hx
    obtain ⟨q2, k2, e2, _, hc2⟩ := h2.ext hx
    obtain ⟨b1, f1, hd1⟩ := hc1 (by intro e; rw [e] at hlt; simp at hlt)
    obtain ⟨b2, f2, hd2⟩ := hc2 (by intro e; rw [e] at hlt2; simp at hlt2)
    clear hc1 hc2
    subst f1 f2
    simp only [Value.slice.injEq, true_and] at e1 e2
    obtain ⟨rfl, rfl⟩ := e1
    obtain ⟨rfl, rfl⟩ := e2
    have a1 := hd1 i hlt
    have d1 := hd2 i hlt2
    obtain ⟨x, hxe⟩ : ∃ x, l1[i] = x := ⟨_, rfl⟩
    obtain ⟨y, hye⟩ : ∃ y, l2[i] = y := ⟨_, rfl⟩
    rw [hxe] at a1
    rw [hye] at d1
    have hd : decide (i < l1.length) = true := decide_eq_true hlt
    have i1 : ((i : Nat) : Int) < (l1.length : Nat) := by omega
    have i2 : ((i : Nat) : Int) < (l2.length : Nat) := by omega
    have HXE := Lib.hid hxe
    have HYE := Lib.hid hye
    have m1 : ∀ w', EOn (fun _ => True) wr w' → w'.cell? ⟨b1, i, none⟩ = _ := fun w' hx => hx.cell trivial a1
    have m2 : ∀ w', EOn (fun _ => True) wr w' → w'.cell? ⟨b2, i, none⟩ = _ := fun w' hx => hx.cell trivial d1
    clear hxe hye hd1 hd2 a1 d1
    go_wp2_with fail
    refine wp_lex (fun _ => True) [true, true, true, true, true, true, true, true, true] (by kernel_rfl) (by kernel_rfl) ?_
    repeat first
     | refine wpG_move' ?_
     | refine wpG_assign' ?_
     | refine wpG_val' ?_
     | refine wpG_no' ?_
    refine wpG_end (fun w6 hx6 => wpList_nil (gQ_normal ?_))
    by_cases hxy : x = y
    ·have hne : (((x : Nat) : Int) != ((y : Nat) : Int)) = false := by simp [hxy]
     have HXY := Lib.hid hxy
     clear hxy
     go_wp2_with fail
     refine ⟨⟨i + 1, by simp, by omega, Lib.hid (fun j a b h => ?_), Ext.trans hx hx6⟩, by simp [intOf]; omega⟩
     rcases Nat.lt_succ_iff_lt_or_eq.1 h with h | h
     ·exact hsame.out j a b h
     ·subst h
      rw [HXE.out, HYE.out]
      exact HXY.out
    ·have hne : (((x : Nat) : Int) != ((y : Nat) : Int)) = true := bne_iff_ne.2 (by omega)
     have hbf : bb = false := by
      cases bb
      ·rfl
      ·exfalso
       have e := hb.1 rfl
       subst e
       exact hxy (by rw [← HXE.out, ← HYE.out])
     have HBF := Lib.hid hbf
     clear hbf hxy
     go_wp2_with fail
     go_ret
     exact ⟨by rw [HBF.out]; rfl, Ext.trans hx hx6⟩
   ·have hbt : bb = true := hb.2 (List.ext_getElem HL.out fun j a b => hsame.out j a b (by omega))
    have HBT := Lib.hid hbt
    have hd : decide (i < l1.length) = false := decide_eq_false hlt
    clear hbt
    go_wp2_with fail
    go_ret
    exact ⟨by rw [HBT.out]; rfl, hx⟩
 ·have hlb : (((l1.length : Nat) : Int) != ((l2.length : Nat) : Int)) = true := bne_iff_ne.2 (by omega)
  have hbf : bb = false := by cases bb; rfl; exact absurd (congrArg List.length (hb.1 rfl)) hl
  subst hbf
  go_enter Tryz.func27, Tryz.ntmps27
  go_wp2_with fail
  go_ret
  exact ⟨rfl, Ext.refl w⟩
end Go.Proofs.YtokeamebcdhnpaaGreatDoor
end
