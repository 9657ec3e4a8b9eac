/-
 The small functions of the tables. Into what a rune falls apart.
-/
import Derived.Test.YtokeamebcdhnpaaGreatDoorWalkE
section
namespace Go.Proofs.YtokeamebcdhnpaaGreatDoor
open Go.RowKit Go.Rp Go.Shelf Go.Maps

theorem NTab.ext {n : Nat} {W W' : World} {tB : Nat} (h : NTab n W tB) (hx : Ext W W') : NTab n W' tB := by
 obtain ⟨mA, mK, jB, sB, kvA, kvK, kvJ, S, v, h1, h2, h3, ⟨h4, h5⟩, ⟨h6, h7⟩, h8⟩ := h.ex
 exact ⟨mA, mK, jB, sB, kvA, kvK, kvJ, S, v, hx.blk h1, h2.ext hx, h3.ext hx, ⟨h4.ext hx, h5⟩, ⟨h6.ext hx, h7⟩, ownsRow_ext h8 hx⟩
set_option maxRecDepth 100000 in
theorem c_right (f : Int) (w : World) : Calls Tryz.prog 45 #[.int .i64 f] w fun e w' => e = .returned (.bool (decide (0 ≤ f ∧ f ≤ 3))) ∧ w' = w := by
 by_cases h1 : 0 ≤ f
 ·have hd := decide_eq_true h1
  by_cases h2 : f ≤ 3
  ·rw [decide_eq_true (And.intro h1 h2)]
   go_enter Tryz.func45, Tryz.ntmps45
   go_wp2_with fail
   go_ret
   exact ⟨rfl, rfl⟩
  ·rw [decide_eq_false (fun h => h2 h.2)]
   go_enter Tryz.func45, Tryz.ntmps45
   go_wp2_with fail
   go_ret
   exact ⟨rfl, rfl⟩
 ·rw [decide_eq_false (fun h => h1 h.1)]
  go_enter Tryz.func45, Tryz.ntmps45
  go_wp2_with fail
  go_ret
  exact ⟨rfl, rfl⟩
set_option maxRecDepth 100000 in
theorem c_loose (f : Int) (w : World) : Calls Tryz.prog 118 #[.int .i64 f] w fun e w' => e = .returned (.bool (decide (f = 2 ∨ f = 3))) ∧ w' = w := by
 by_cases h1 : f = 2
 ·rw [decide_eq_true (Or.inl h1)]
  go_enter Tryz.func118, Tryz.ntmps118
  go_wp2_with fail
  go_ret
  exact ⟨rfl, rfl⟩
 ·by_cases h2 : f = 3
  ·rw [decide_eq_true (Or.inr h2)]
   go_enter Tryz.func118, Tryz.ntmps118
   go_wp2_with fail
   go_ret
   exact ⟨rfl, rfl⟩
  ·rw [decide_eq_false (fun h => h.elim h1 h2)]
   have e2 : (f == 3) = false := by simpa using h2
   have e1 : (f == 2) = false := by simpa using h1
   go_enter Tryz.func118, Tryz.ntmps118
   go_wp2_with fail
   go_ret
   exact ⟨rfl, rfl⟩
set_option maxRecDepth 100000 in
theorem c_joining (f : Int) (w : World) : Calls Tryz.prog 66 #[.int .i64 f] w fun e w' => e = .returned (.bool (decide (f = 1 ∨ f = 3))) ∧ w' = w := by
 by_cases h1 : f = 1
 ·rw [decide_eq_true (Or.inl h1)]
  go_enter Tryz.func66, Tryz.ntmps66
  go_wp2_with fail
  go_ret
  exact ⟨rfl, rfl⟩
 ·by_cases h2 : f = 3
  ·rw [decide_eq_true (Or.inr h2)]
   go_enter Tryz.func66, Tryz.ntmps66
   go_wp2_with fail
   go_ret
   exact ⟨rfl, rfl⟩
  ·rw [decide_eq_false (fun h => h.elim h1 h2)]
   have e2 : (f == 3) = false := by simpa using h2
   have e1 : (f == 1) = false := by simpa using h1
   go_enter Tryz.func66, Tryz.ntmps66
   go_wp2_with fail
   go_ret
   exact ⟨rfl, rfl⟩
/-- The order of a rune, by a list of spans. -/
def ordE : List (Int × Int × Int) → Int → Int
 | [], _ => 0
 | x :: t, r => if x.1 ≤ r ∧ r ≤ x.2.1 then x.2.2 else ordE t r
theorem ordE_drop {l : List (Int × Int × Int)} {r : Int} {i : Nat} (h : i < l.length) : ordE (l.drop i) r = if l[i].1 ≤ r ∧ r ≤ l[i].2.1 then l[i].2.2 else ordE (l.drop (i + 1)) r := by
 rw [List.drop_eq_getElem_cons h]
 rfl
theorem spanCells_get (l : List (Int × Int × Int)) : ∀ (i : Nat) (h : i < l.length), (spanCells l)[i * 3]? = some (.int .i32 l[i].1) ∧ (spanCells l)[i * 3 + 1]? = some (.int .i32 l[i].2.1) ∧ (spanCells l)[i * 3 + 2]? = some (.int .i64 l[i].2.2) := by
 induction l with
 | nil => intro i h; simp at h
 | cons x t ih =>
  intro i h
  cases i with
  | zero => simp [spanCells, spanV]
  | succ i =>
   have e : spanCells (x :: t) = spanV x ++ spanCells t := rfl
   have hl : (spanV x).length = 3 := rfl
   obtain ⟨h1, h2, h3⟩ := ih i (by simpa using h)
   rw [e]
   refine ⟨?_, ?_, ?_⟩
   ·rw [List.getElem?_append_right (by omega), hl, show (i + 1) * 3 - 3 = i * 3 by omega]; simpa using h1
   ·rw [List.getElem?_append_right (by omega), hl, show (i + 1) * 3 + 1 - 3 = i * 3 + 1 by omega]; simpa using h2
   ·rw [List.getElem?_append_right (by omega), hl, show (i + 1) * 3 + 2 - 3 = i * 3 + 2 by omega]; simpa using h3
noncomputable def odT (r : Int) : Int := ordE (linesO.map ordOf) r
set_option maxRecDepth 100000 in
set_option maxHeartbeats 2000000 in
theorem c_order (n tB : Nat) (r : Int) (w : World) (ht : NTab n w tB) : Calls Tryz.prog 88 #[.pointer (some ⟨tB, 0, none⟩), .int .i32 r] w fun e w' => e = .returned (.int .i64 (odT r)) ∧ Ext w w' := by
 obtain ⟨mA, mK, jB, sB, kvA, kvK, kvJ, S, v, h1, -, -, -, -, h8⟩ := ht.ex
 have y3 : w.cell? ⟨tB, 3, none⟩ = some v := (cell_blk h1 3).trans rfl
 obtain ⟨L, hL⟩ : ∃ L, linesO.map ordOf = L := ⟨_, rfl⟩
 have hll : linesO.length = L.length := by rw [← hL, List.length_map]
 unfold odT
 rw [hL] at h8 ⊢
 rw [hll] at h8
 obtain ⟨p, cap, rfl⟩ := own_slice h8
 have hlen : L.length ≤ 1000 := by rw [← hll]; decide +kernel
 clear h1 ht hll
 have HL := Lib.hid hL
 clear hL
 go_enter Tryz.func88, Tryz.ntmps88
 go_wp2_with fail
 go_loopw [12] (fun iv W => Ext w W ∧ ∃ i : Nat, iv = .int .i64 (i : Nat) ∧ i ≤ L.length ∧ ordE L r = ordE (L.drop i) r) (fun iv _ => L.length + 1 - (intOf iv).toNat)
 case atStart => exact ⟨Ext.refl _, 0, rfl, by omega, rfl⟩
 case round =>
  obtain ⟨hx, i, rfl, hi, he⟩ := hrel
  by_cases hlt : i < L.length
  ·have hlI : ((i : Nat) : Int) < (L.length : Nat) := by omega
   have hd : decide (i < L.length) = true := decide_eq_true hlt
   obtain ⟨g, hpe, _, _, hgc⟩ := own_at h8 (by omega)
   subst hpe
   obtain ⟨a0, a1, a2⟩ := spanCells_get L i hlt
   have c0 := hx.cell ((hgc (i * 3) (by omega)).trans a0)
   have c1 := hx.cell ((hgc (i * 3 + 1) (by omega)).trans a1)
   have c2 := hx.cell ((hgc (i * 3 + 2) (by omega)).trans a2)
   clear a0 a1 a2 hgc
   rw [ordE_drop hlt] at he
   obtain ⟨x, hx0⟩ : ∃ x, L[i] = x := ⟨_, rfl⟩
   rw [hx0] at c0 c1 c2 he
   obtain ⟨x1, x2, x3⟩ := x
   simp only at c0 c1 c2 he
   clear hx0
   have hxn := hx.alloc (.cells #[.int .i32 x1, .int .i32 x2, .int .i64 x3] 115)
   by_cases hA : x1 ≤ r
   ·by_cases hB : r ≤ x2
    ·rw [if_pos ⟨hA, hB⟩] at he
     have HE := Lib.hid he
     have hdB := decide_eq_true hB
     clear he
     go_wp2_with fail
     go_ret
     rw [HE.out]
     exact ⟨rfl, hxn⟩
    ·rw [if_neg (fun h => hB h.2)] at he
     have HE := Lib.hid he
     have hdB := decide_eq_false hB
     clear he
     go_wp2_with fail
     exact ⟨⟨hxn, i + 1, by simp, by omega, HE.out⟩, by simp [intOf]; omega⟩
   ·rw [if_neg (fun h => hA h.1)] at he
    have HE := Lib.hid he
    clear he
    go_wp2_with fail
    exact ⟨⟨hxn, i + 1, by simp, by omega, HE.out⟩, by simp [intOf]; omega⟩
  ·have hd : decide (i < L.length) = false := decide_eq_false hlt
   rw [List.drop_of_length_le (by omega)] at he
   have HE := Lib.hid he
   clear he
   go_wp2_with fail
   go_ret
   rw [HE.out]
   exact ⟨rfl, hx⟩
end Go.Proofs.YtokeamebcdhnpaaGreatDoor
end

section
namespace Go.Proofs.YtokeamebcdhnpaaGreatDoor
open Go.RowKit Go.Rp Go.Shelf Go.Maps

theorem own_new (w : World) (t : TypeId) (xs : List Value) (hl : xs.length ≤ maxLen) : (w.alloc (.cells xs.toArray t)).ownsRow w.heap.size t 1 (.slice (some ⟨w.heap.size, 0, none⟩) xs.length xs.length) xs.length xs :=
 ⟨by omega, .inr ⟨_, _, xs.toArray, rfl, Nat.le_refl _, World.alloc_heap_new w _, Nat.le_refl _, hl, by simp, by simp⟩⟩
/-- A syllable's parts. -/
def sylE (r : Int) : List Int := [4352 + (r - 44032) / 588, 4449 + (r - 44032) % 588 / 28] ++ if (r - 44032) % 28 = 0 then [] else [4519 + (r - 44032) % 28]
set_option maxRecDepth 100000 in
set_option maxHeartbeats 2000000 in
theorem c_syllable (r : Int) (h0 : 44032 ≤ r) (h1 : r ≤ 55203) (w : World) : Calls Tryz.prog 117 #[.int .i32 r] w fun e w' => ∃ v, e = .returned v ∧ w'.ownsRow w.heap.size 21 1 v (sylE r).length (i32s (sylE r)) ∧ Ext w w' := by
 obtain ⟨i0, hi0, hz0, hz1, hz3⟩ := info_parts Tryz.infoI
 have hx1 : Ext w (w.alloc (.cells #[.int .i32 (4352 + (r - 44032) / 588), .int .i32 (4449 + (r - 44032) % 588 / 28)] 21)) := (Ext.refl w).alloc _
 have hown := own_new w 21 [.int .i32 (4352 + (r - 44032) / 588), .int .i32 (4449 + (r - 44032) % 588 / 28)] (by unfold maxLen; simp)
 by_cases hm : (r - 44032) % 28 = 0
 ·have hm' : ((r - 44032) % 28 != 0) = false := by simp [hm]
  have HX := Lib.hid (And.intro hx1 hown)
  have HM := Lib.hid hm
  clear hx1 hown hm
  go_enter Tryz.func117, Tryz.ntmps117
  go_wp2_with fail
  go_ret
  refine ⟨_, rfl, ?_, HX.out.1⟩
  have e : sylE r = [4352 + (r - 44032) / 588, 4449 + (r - 44032) % 588 / 28] := by unfold sylE; rw [if_pos HM.out]; rfl
  rw [e]
  exact HX.out.2
 ·have hm' : ((r - 44032) % 28 != 0) = true := by simp [hm]
  have e : sylE r = [4352 + (r - 44032) / 588, 4449 + (r - 44032) % 588 / 28] ++ [4519 + (r - 44032) % 28] := by unfold sylE; rw [if_neg hm]
  have HS := Lib.hid e
  have hsz := hx1.size
  have hown2 := ownsRow_ext hown (Ext.refl _ |>.alloc (.cells #[.int .i32 (4519 + (r - 44032) % 28)] 21))
  have HX := Lib.hid (And.intro hx1 hown2)
  clear hx1 hown hm e hown2
  go_enter Tryz.func117, Tryz.ntmps117
  go_wp2_with (at_builtin; refine wpList_append_own _ rfl (.tmp 18) (.tmp 22) 55 rfl w.heap.size 21 i0 (.int .i32 0) 1 4 Tryz.underlying55 hi0 hz0 hz1 hz3 rfl (by decide) _ 2 [.int .i32 (4352 + (r - 44032) / 588), .int .i32 (4449 + (r - 44032) % 588 / 28)] rfl HX.out.2 ⟨w.heap.size + 1, 0, none⟩ 1 1 [.int .i32 (4519 + (r - 44032) % 28)] rfl rfl (by have h := World.news_of_block (World.alloc_heap_new (w.alloc (.cells #[.int .i32 (4352 + (r - 44032) / 588), .int .i32 (4449 + (r - 44032) % 588 / 28)] 21)) (.cells #[.int .i32 (4519 + (r - 44032) % 28)] 21)); simpa using h) (by intro u hu; simp at hu; rw [hu]; rfl) (by unfold maxLen; omega) (by omega) (by simp; omega) ?_; intro v' w3 hown3 hgrow3 _; have hx3 := Lib.hid (Below.grown ((HX.out.1).alloc (.cells #[.int .i32 (4519 + (r - 44032) % 28)] 21)) hgrow3 (by simp; omega) (fun k e => (HX.out.2.lt k e).1)); have HO3 := Lib.hid hown3; clear hgrow3 hown3)
  go_ret
  refine ⟨_, rfl, ?_, hx3.out⟩
  rw [HS.out]
  exact HO3.out
/-- What a table says of a rune. -/
def lookE (E : List (Int × List Int)) (r : Int) : Option (List Int) := (E.find? fun e => e.1 == r).map (·.2)
/-- The lines of a table, as they should be. -/
def GoodT (E : List (Int × List Int)) : Prop := (∀ e ∈ E, (0 ≤ e.1 ∧ e.1 < 16777216) ∧ (1 ≤ e.2.length ∧ e.2.length ≤ 20) ∧ ∀ x ∈ e.2, 0 ≤ x ∧ x < 16777216) ∧ (E.map (·.1)).Nodup
theorem lookE_mem {E : List (Int × List Int)} {r : Int} {l : List Int} (h : lookE E r = some l) : (r, l) ∈ E := by
 unfold lookE at h
 obtain ⟨e, he, rfl⟩ := Option.map_eq_some_iff.1 h
 have h1 := List.mem_of_find?_eq_some he
 have h2 := List.find?_some he
 have h2 : e.1 = r := by simpa using h2
 rw [← h2]
 exact h1
theorem lookE_of {E : List (Int × List Int)} (hN : (E.map (·.1)).Nodup) {r : Int} {l : List Int} (h : (r, l) ∈ E) : lookE E r = some l := by
 unfold lookE
 induction E with
 | nil => cases h
 | cons e t ih =>
  rw [List.map_cons, List.nodup_cons] at hN
  rw [List.find?_cons]
  rcases List.mem_cons.1 h with rfl | h
  ·simp
  ·have hne : (e.1 == r) = false := by
    simp only [beq_eq_false_iff_ne]
    rintro rfl
    exact hN.1 (List.mem_map.2 ⟨_, h, rfl⟩)
   rw [hne]
   exact ih hN.2 h
theorem lookE_none {E : List (Int × List Int)} {r : Int} (h : ∀ e ∈ E, e.1 ≠ r) : lookE E r = none := by
 unfold lookE
 rw [List.find?_eq_none.2 (fun e he => by simpa using h e he)]
 rfl
theorem RMap.look {n : Nat} {W : World} {m : Nat} {kv : List (Value × Value)} {E : List (Int × List Int)} (h : RMap n W m kv E) (hE : GoodT E) {r : Int} (h0 : 0 ≤ r) (h1 : r < 2147483648) :
  ∃ v, (Instr.lookup 98 (.map (some m)) (.int .i32 r) false).run Tryz.prog W = .ok v W ∧ ((∃ l, lookE E r = some l ∧ W.ownsRow n 21 1 v l.length (i32s l)) ∨ (lookE E r = none ∧ v = .slice none 0 0)) := by
 have hz := Tryz.zeroValue55
 obtain ⟨v, b, hrun, hc⟩ := h.1.look (int_keyed Tryz.underlying21) Tryz.underlying98 (h.keys fun e he => (hE.1 e he).1) (key_i32 h0 h1) (fun W => hz W) false
 refine ⟨v, by simpa using hrun, ?_⟩
 rcases hc with ⟨_, hm⟩ | ⟨_, rfl, hn⟩
 ·obtain ⟨i, hi, e⟩ := List.mem_iff_getElem.1 hm
  have hi' : i < E.length := by rw [← h.2.1]; exact hi
  obtain ⟨v', e2, hr⟩ := h.2.2 i hi hi'
  rw [e] at e2
  simp only [Prod.mk.injEq, Value.int.injEq, true_and] at e2
  obtain ⟨e3, rfl⟩ := e2
  exact .inl ⟨E[i].2, lookE_of hE.2 (by rw [e3]; exact List.getElem_mem hi'), hr⟩
 ·refine .inr ⟨lookE_none fun e he e2 => ?_, rfl⟩
  obtain ⟨i, hi, rfl⟩ := List.mem_iff_getElem.1 he
  have hi' : i < kv.length := by rw [h.2.1]; exact hi
  obtain ⟨v', e3, _⟩ := h.2.2 i hi' hi
  exact hn _ (List.getElem_mem hi') (by rw [e3, e2])
/-- Into what a rune falls apart. -/
def fal (A K : List (Int × List Int)) : Nat → Bool → Int → List Int
 | 0, _, r => [r]
 | n + 1, k, r => if 44032 ≤ r ∧ r ≤ 55203 then sylE r else match lookE A r with
  | some l => l.flatMap (fal A K n k)
  | none => if k = true then match lookE K r with
    | some l => l.flatMap (fal A K n k)
    | none => [r]
   else [r]
/-- So many steps are enough. -/
def Deep (A K : List (Int × List Int)) : Nat → Bool → Int → Prop
 | 0, _, _ => False
 | n + 1, k, r => (44032 ≤ r ∧ r ≤ 55203) ∨ match lookE A r with
  | some l => ∀ x ∈ l, Deep A K n k x
  | none => k = true → match lookE K r with
    | some l => ∀ x ∈ l, Deep A K n k x
    | none => True
theorem fal_len {A K : List (Int × List Int)} (hA : GoodT A) (hK : GoodT K) : ∀ (n : Nat) (k : Bool) (r : Int), 1 ≤ (fal A K n k r).length ∧ (fal A K n k r).length ≤ 20 ^ n := by
 intro n
 induction n with
 | zero => intro k r; simp [fal]
 | succ n ih =>
  intro k r
  have hp : 1 ≤ 20 ^ n := Nat.one_le_pow _ _ (by decide)
  have hf : ∀ l : List Int, 1 ≤ l.length → l.length ≤ 20 → 1 ≤ (l.flatMap (fal A K n k)).length ∧ (l.flatMap (fal A K n k)).length ≤ 20 ^ (n + 1) := by
   intro l h1 h2
   have g : ∀ l : List Int, l.length ≤ (l.flatMap (fal A K n k)).length ∧ (l.flatMap (fal A K n k)).length ≤ l.length * 20 ^ n := by
    intro l
    induction l with
    | nil => simp
    | cons x t ih2 =>
     have := ih k x
     simp only [List.flatMap_cons, List.length_append, List.length_cons, Nat.add_mul, Nat.one_mul]
     omega
   have := g l
   have h3 : l.length * 20 ^ n ≤ 20 * 20 ^ n := Nat.mul_le_mul_right _ h2
   rw [Nat.pow_succ]
   omega
  unfold fal
  have h20 : 3 ≤ 20 ^ (n + 1) := by rw [Nat.pow_succ]; omega
  split
  ·have : (sylE r).length = 2 ∨ (sylE r).length = 3 := by unfold sylE; split <;> simp
   omega
  ·split
   ·rename_i l e
    have := (hA.1 _ (lookE_mem e)).2.1
    exact hf l this.1 this.2
   ·split
    ·split
     ·rename_i l e
      have := (hK.1 _ (lookE_mem e)).2.1
      exact hf l this.1 this.2
     ·simp; omega
    ·simp; omega
end Go.Proofs.YtokeamebcdhnpaaGreatDoor
end
