/-
 What two runes join to; the second ones. The bytes of a text.
-/
import Derived.Test.YtokeamebcdhnpaaGreatDoorWalkH
import Derived.Test.YtokeamebcdhnpaaGreatDoorPlainM
section
namespace Go.Proofs.YtokeamebcdhnpaaGreatDoor
open Go.RowKit Go.Rp Go.Shelf Go.Maps

/-- The pairs that join. -/
noncomputable def joinsT : List ((Int × Int) × Int) := apartT.filterMap (jnE (linesX.map keyOfL))
noncomputable def jnL (a b : Int) : Option Int := (joinsT.find? fun q => decide (q.1 = (a, b))).map (·.2)
noncomputable def jnT (a b : Int) : Option Int :=
 if (4352 ≤ a ∧ a ≤ 4370) ∧ 4449 ≤ b ∧ b ≤ 4469 then some (44032 + ((a - 4352) * 21 + b - 4449) * 28)
 else if ((44032 ≤ a ∧ a ≤ 55203) ∧ (a - 44032) % 28 = 0) ∧ 4519 < b ∧ b ≤ 4546 then some (a + b - 4519)
 else jnL a b
theorem jnL_some {a b r : Int} : jnL a b = some r ↔ ((a, b), r) ∈ joinsT := by
 have hp := goodEA.2
 unfold jnL
 constructor
 ·intro h
  obtain ⟨q, hq, rfl⟩ := Option.map_eq_some_iff.1 h
  have h1 := List.mem_of_find?_eq_some hq
  have h2 : q.1 = (a, b) := by simpa using List.find?_some hq
  rw [← h2]
  exact h1
 ·intro h
  have : ∀ l : List ((Int × Int) × Int), l.Pairwise (fun p q => p.1 ≠ q.1) → ((a, b), r) ∈ l → (l.find? fun q => decide (q.1 = (a, b))).map (·.2) = some r := by
   intro l
   induction l with
   | nil => intro _ h; cases h
   | cons q t ih =>
    intro hp hm
    rw [List.pairwise_cons] at hp
    rw [List.find?_cons]
    rcases List.mem_cons.1 hm with rfl | hm
    ·simp
    ·have : decide (q.1 = (a, b)) = false := decide_eq_false (hp.1 _ hm)
     rw [this]
     exact ih hp.2 hm
  exact this _ hp h
/-- The joins' map as it is. -/
theorem joins_look {W : World} {m : Nat} {kvJ : List (Value × Value)} (h : MapIs W m kvJ) {Q : List ((Int × Int) × Int)} (hQ : kvJ = Q.map encJ) (hm : ∀ q, q ∈ Q ↔ q ∈ joinsT) {a b : Int} (ha : 0 ≤ a ∧ a < 16777216) (hb : 0 ≤ b ∧ b < 16777216) :
  (Instr.lookup 100 (.map (some m)) (pairV (a, b)) true).run Tryz.prog W = .ok (.tuple #[.int .i32 ((jnL a b).getD 0), .bool (jnL a b).isSome]) W := by
 subst hQ
 have hz := Tryz.zeroValue21
 have hk : ∀ p ∈ Q.map encJ, ∃ l, keyOf Tryz.prog 109 p.1 = some l := by
  intro p hp
  obtain ⟨q, hq, rfl⟩ := List.mem_map.1 hp
  obtain ⟨e, he, hj⟩ := List.mem_filterMap.1 ((hm q).1 hq)
  have hg := goodEA.1 e he
  obtain ⟨r, es⟩ := e
  match es, hj, hg with
  | [x, y], hj, hg =>
   simp only [jnE] at hj
   split at hj
   ·cases hj
   ·cases hj
    exact keyPr (x, y) ⟨by have := hg.2 x (by simp); omega, by have := hg.2 y (by simp); omega⟩
  | [], hj, _ => cases hj
  | [x], hj, _ => cases hj
  | x :: y :: z :: t, hj, _ => cases hj
 obtain ⟨lx, hx⟩ := keyPr (a, b) ⟨by omega, by omega⟩
 cases hj : jnL a b with
 | some r =>
  have := (hm _).2 (jnL_some.1 hj)
  have hr := h.there keyedP Tryz.underlying100 hk hx (fun W => hz W) (v := .int .i32 r) (List.mem_map.2 ⟨_, this, rfl⟩) (fun v' hv' => by
   obtain ⟨q, hq, e⟩ := List.mem_map.1 hv'
   obtain ⟨⟨x, y⟩, r'⟩ := q
   simp only [encJ, Prod.mk.injEq] at e
   have e1 := pairV_inj e.1
   simp only [Prod.mk.injEq] at e1
   obtain ⟨rfl, rfl⟩ := e1
   have := jnL_some.2 ((hm _).1 hq)
   rw [hj] at this
   cases this
   exact e.2.symm) true
  simpa using hr
 | none =>
  have hr := h.none keyedP Tryz.underlying100 hk hx (fun W => hz W) (fun p hp e => by
   obtain ⟨q, hq, rfl⟩ := List.mem_map.1 hp
   obtain ⟨⟨x, y⟩, r'⟩ := q
   have e1 := pairV_inj e
   simp only [Prod.mk.injEq] at e1
   obtain ⟨rfl, rfl⟩ := e1
   have := jnL_some.2 ((hm _).1 hq)
   rw [hj] at this
   cases this) true
  simpa using hr
set_option maxRecDepth 100000 in
set_option maxHeartbeats 4000000 in
theorem c_join (nb tB : Nat) (a b : Int) (w : World) (ht : NTab nb w tB) (ha : 0 ≤ a ∧ a < 16777216) (hb : 0 ≤ b ∧ b < 16777216) :
  Calls Tryz.prog 91 #[.pointer (some ⟨tB, 0, none⟩), .int .i32 a, .int .i32 b] w fun e w' => e = .returned (.tuple #[.int .i32 ((jnT a b).getD 0), .bool (jnT a b).isSome]) ∧ Ext w w' := by
 obtain ⟨mA, mK, jB, sB, kvA, kvK, kvJ, S, v, hbk, -, -, ⟨hJ, Q, hQ, hm⟩, -, -⟩ := ht.ex
 have y2 : w.cell? ⟨tB, 2, none⟩ = some (.map (some jB)) := (cell_blk hbk 2).trans rfl
 have hlk := joins_look hJ hQ hm ha hb
 have HLK := Lib.hid hlk
 obtain ⟨ha0, ha1⟩ := ha
 obtain ⟨hb0, hb1⟩ := hb
 clear hbk hQ hm hJ ht
 obtain ⟨o, ho⟩ : ∃ o, jnT a b = o := ⟨_, rfl⟩
 have HO := Lib.hid ho
 rw [ho]
 clear ho
 go_enter Tryz.func91, Tryz.ntmps91
 go_wp2_with fail
 all_goals
  have h := HO.out
  unfold jnT at h
  clear hlk y2
  try simp only [decide_eq_true_eq, decide_eq_false_iff_not, beq_iff_eq, beq_eq_false_iff_ne, bne_iff_ne, ne_eq] at *
  first
   | (rw [if_pos (by omega)] at h; subst h; exact bodyPost_ret (v := .tuple #[.int .i32 (44032 + ((a - 4352) * 21 + b - 4449) * 28), .bool true]) (by simp [results, Tryz.results91, go_sem]) rfl ⟨rfl, Ext.refl _⟩)
   | (rw [if_neg (by omega), if_pos (by omega)] at h; subst h; exact bodyPost_ret (v := .tuple #[.int .i32 (a + b - 4519), .bool true]) (by simp [results, Tryz.results91, go_sem]) rfl ⟨rfl, Ext.refl _⟩)
   | (rw [if_neg (by omega), if_neg (by omega)] at h; subst h; exact bodyPost_ret (v := .tuple #[.int .i32 ((jnL a b).getD 0), .bool (jnL a b).isSome]) (by simp [results, Tryz.results91, go_sem]) rfl ⟨rfl, Ext.refl _⟩)
end Go.Proofs.YtokeamebcdhnpaaGreatDoor
end

section
namespace Go.Proofs.YtokeamebcdhnpaaGreatDoor
open Go.RowKit Go.Rp Go.Shelf Go.Maps

theorem len_eq (s : ByteArray) : s.data.toList.length = s.size := by simp
theorem ret_one {P : Program} {fn : Func} {R : Ending → World → Prop} {a : Act} {w : World} {v : Value} {t : Tmp} (hf : fn.results = #[.tmp t]) (hv : a.tmps.getD t undef = v) (hd : a.defers = []) (hR : R (.returned v) w) : bodyPost P fn R .ret a w :=
 bodyPost_ret (by rw [results_tmp hf, hv]) hd hR
theorem ret_two {P : Program} {fn : Func} {R : Ending → World → Prop} {a : Act} {w : World} {v u : Value} {t s : Tmp} (hf : fn.results = #[.tmp t, .tmp s]) (hv : a.tmps.getD t undef = v) (hu : a.tmps.getD s undef = u) (hd : a.defers = [])
  (hR : R (.returned (.tuple #[v, u])) w) : bodyPost P fn R .ret a w :=
 bodyPost_ret (by rw [results_tmp2 hf, hv, hu]) hd hR
theorem toList_extract (s : ByteArray) (i j : Nat) : (s.extract i j).data.toList = (s.data.toList.drop i).take (j - i) := by
 rw [ByteArray.data_extract, Array.toList_extract, List.extract_eq_take_drop]
theorem take_all {l : List UInt8} {n : Nat} (h : l.length ≤ n) : l.take n = l := List.take_of_length_le h

theorem c_DecodeRune (s : ByteArray) (w : World) (hT : Tabs w) (hs : 0 < s.size) :
  Calls Tryz.prog 77 #[.string s] w fun e w' => e = .returned (.tuple #[.int .i32 (run s.data.toList : Nat), .int .i64 (wid s.data.toList : Nat)]) ∧ Ext w w' := by
 have h := Tryz.utf8_DecodeRuneInString s w hT.u8
 have e : Lib.decodeGo s = dec s.data.toList := by
  unfold Lib.decodeGo
  rw [if_neg (by omega), dec_at]
  rfl
 rw [e] at h
 exact h

theorem c_Decode (s : ByteArray) (w : World) (hT : Tabs w) (hs : 0 < s.size) :
  Calls Tryz.prog 52 #[.string s] w fun e w' => e = .returned (.tuple #[.int .i32 (run s.data.toList : Nat), .int .i64 (wid s.data.toList : Nat)]) ∧ Ext w w' := by
 have hne : s.data.toList ≠ [] := fun e => by
  have : s.size = 0 := by rw [← len_eq, e]; rfl
  omega
 have hne2 : (s.toList == []) = false := by
  rw [ByteArray.toList_eq]
  exact beq_false_of_ne hne
 have hne3 : ¬ s.toList = [] := by rw [ByteArray.toList_eq]; exact hne
 go_enter Tryz.func52, Tryz.ntmps52
 go_wp2_with fail
 refine (c_DecodeRune s _ hT hs).mono ?_
 rintro e w1 ⟨rfl, hx1⟩
 go_wp2_with fail
 exact ret_two rfl rfl rfl rfl ⟨rfl, hx1⟩

/-- utf.Encode of a rune. -/
theorem c_Encode (r : Int) (w : World) (hv : Utf8.valid r = true) : Calls Tryz.prog 94 #[.int .i32 r] w fun e w' => e = .returned (.string (Utf8.encode r)) ∧ Ext w w' := by
 have hr : (0 ≤ r ∧ r < 55296) ∨ (57343 < r ∧ r ≤ 1114111) := by
  unfold Utf8.valid at hv
  simp only [Bool.or_eq_true, Bool.and_eq_true, decide_eq_true_eq] at hv
  omega
 have hi : ∀ w, Calls Tryz.prog 121 #[.int .i32 r] w fun e w' => e = .returned (.bool true) ∧ w' = w := by
  intro w
  rcases hr with ⟨h1, h2⟩ | ⟨h1, h2⟩
  ·have h3 : r ≤ 1114111 := by omega
   have e3 := decide_eq_true h3
   have e2 := decide_eq_true h2
   go_enter Tryz.func121, Tryz.ntmps121
   go_wp2_with fail
   exact ret_one rfl rfl rfl ⟨rfl, rfl⟩
  ·have h0 : 0 ≤ r := by omega
   have h3 : ¬ r < 55296 := by omega
   have e2 := decide_eq_true h2
   have e3 := decide_eq_false h3
   have e1 := decide_eq_true h1
   go_enter Tryz.func121, Tryz.ntmps121
   go_wp2_with fail
   exact ret_one rfl rfl rfl ⟨rfl, rfl⟩
 go_enter Tryz.func94, Tryz.ntmps94
 go_wp2_with fail
 refine (hi _).mono ?_
 rintro e w2 ⟨rfl, rfl⟩
 go_wp2_with fail
 exact ret_one rfl rfl rfl ⟨rfl, Ext.refl _⟩
end Go.Proofs.YtokeamebcdhnpaaGreatDoor
end
