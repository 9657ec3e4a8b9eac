/-
  Lines and costs of whatever boxes. What the laws of lines ask, whatever the boxes are.
-/
import Derived.Test.YtlmkbldiicbejaaGreatDoorWrO
import Derived.Test.YtlmkbldiicbejaaGreatDoorLvA
section
namespace Go.Proofs.YtlmkbldiicbejaaGreatDoor
open Go.RowKit Go.Rp Go.Maps Go.Cl Go.Shelf Go.Gr Go.Ln

set_option maxRecDepth 100000 in
set_option maxHeartbeats 2000000 in
/-- Boxes that may not be so, or none: no costs. -/
theorem c_Cost0 (v ve : Value) (l : List BxI) (es : List Int) (W F R H : Int) (w : World) (h : BxRow w v l) (hes : IRow w ve es) (he : (chkK l W F R H).1 ≠ 0 ∨ l = []) :
    Calls Tryz.prog 16 #[v, .agg #[.int .i64 W, .int .i64 F, .int .i64 R, .int .i64 H], ve] w fun e w' => e = .returned (.tuple #[.int .i64 0, .bool (decide ((chkK l W F R H).1 = 0 ∧ es = []))]) ∧ Ext w w' := by
  have HC := Lib.hid (fun W' (h' : Ext w W') => c_wrCheck v l W F R H W' (h.ext h'))
  have HP := Lib.hid (fun p cap W' => c_pars0 p cap W F R H W')
  obtain ⟨p, cap, rfl, _, _⟩ := h
  obtain ⟨ep, ec, rfl, _, _⟩ := hes
  obtain ⟨bb, hbb⟩ : ∃ bb, decide ((chkK l W F R H).1 = 0 ∧ es = []) = bb := ⟨_, rfl⟩
  rw [hbb]
  have HBB := Lib.hid hbb
  clear hbb
  generalize hc : chkK l W F R H = c at HC he HBB ⊢
  have HE := Lib.hid he
  clear he
  go_enter Tryz.func16, Tryz.ntmps16
  go_wp2_with fail
  have hx0 := (Ext.refl w).alloc (.cells #[.int .i64 W, .int .i64 F, .int .i64 R, .int .i64 H] 24)
  have hbo := World.alloc_heap_new w (.cells #[.int .i64 W, .int .i64 F, .int .i64 R, .int .i64 H] 24)
  generalize w.alloc (.cells #[.int .i64 W, .int .i64 F, .int .i64 R, .int .i64 H] 24) = w0 at hx0 hbo ⊢
  generalize w.heap.size = tb at hbo ⊢
  refine (HC.out w0 hx0).mono ?_
  rintro e w1 ⟨rfl, hx1⟩
  obtain ⟨c1, c2⟩ := c
  have HX1 := Lib.hid (hx0.trans hx1)
  have hb1 := hx1.blk hbo
  simp only at HBB ⊢
  by_cases h0 : c1 = 0
  · subst h0
    have hl : l = [] := HE.out.resolve_left (fun h => h rfl)
    subst hl
    have m0 := fun ob => ((Ext.refl w1).alloc ob).cell ((cell_blk hb1 0).trans rfl)
    have m1 := fun ob => ((Ext.refl w1).alloc ob).cell ((cell_blk hb1 1).trans rfl)
    have m2 := fun ob => ((Ext.refl w1).alloc ob).cell ((cell_blk hb1 2).trans rfl)
    have m3 := fun ob => ((Ext.refl w1).alloc ob).cell ((cell_blk hb1 3).trans rfl)
    clear hx0 hx1 hbo hb1 hc HE HC
    simp only [List.length_nil]
    go_wp2_with fail
    clear m0 m1 m2 m3
    have hsb := Boxed.new w1 2 (.int .i64 0)
    have hx2 := (Ext.refl w1).alloc (.cells #[.int .i64 0] 2)
    generalize w1.alloc (.cells #[.int .i64 0] 2) = w2 at hsb hx2 ⊢
    generalize w1.heap.size = sb at hsb ⊢
    refine (HP.out p cap w2).mono ?_
    rintro e w3 ⟨rfl, hx3⟩
    have HX3 := Lib.hid ((HX1.out.trans hx2).trans hx3)
    have HSB := Lib.hid (hsb.ext hx3)
    clear hx2 hx3 hsb
    go_wp2_with fail
    go_loopw [2, 12, 13, 14, 15, 28] (fun ev _ _ _ _ cv V => ev = .slice ep es.length ec ∧ cv = .int .i64 0 ∧ Hid (Boxed V sb 2 (.int .i64 0)) ∧ Hid (Ext w V)) (fun _ _ _ _ _ _ _ => 0)
    case atStart => exact ⟨rfl, rfl, HSB, HX3⟩
    case round =>
      obtain ⟨rfl, rfl, HS, HX⟩ := hrel
      obtain ⟨V, rfl⟩ : ∃ V, V = wr := ⟨_, rfl⟩
      have z0 := HS.out.cell
      have z1 := HS.out.frozen
      cases es with
      | nil =>
        go_wp2_with fail
        have hb : bb = true := by rw [← HBB.out]; rfl
        exact ret_two rfl rfl rfl rfl ⟨by rw [hb]; rfl, HX.out⟩
      | cons x es =>
        have hn1 : (0 : Int) < (es.length : Nat) + 1 := by omega
        go_wp2_with fail
        have hb : bb = false := by rw [← HBB.out]; simp
        exact ret_two rfl rfl rfl rfl ⟨by rw [hb]; rfl, HX.out⟩
  · have hb : (c1 == 0) = false := beq_eq_false_iff_ne.2 h0
    have hb2 : bb = false := by rw [← HBB.out]; exact decide_eq_false (fun h => h0 h.1)
    have HB2 := Lib.hid hb2
    clear hx0 hx1 hbo hb1 hc h0 hb2
    go_wp2_with fail
    exact ret_two rfl rfl rfl rfl ⟨by rw [HB2.out]; rfl, HX1.out⟩
theorem linA_ok {l : List BxI} {W F R H : Int} (h : (chkK l W F R H).1 = 0) : linA l W F R H = Wp.linesK ⟨W, F, R⟩ (H == 1) (l.map unB) := by unfold linA; rw [if_pos h]
theorem linA_none {l : List BxI} {W F R H : Int} (h : (chkK l W F R H).1 ≠ 0 ∨ l = []) : linA l W F R H = [] := by
  rcases h with h | rfl
  · unfold linA; rw [if_neg h]
  · exact linA_nil W F R H
theorem cstA_ok {l : List BxI} {W F R H : Int} (h : (chkK l W F R H).1 = 0) (es : List Int) : cstA l W F R H es = Wp.costF ⟨W, F, R⟩ (l.map unB) 0 es := by unfold cstA; rw [if_pos h]
theorem costF_nil (r : Wp.Wr) (es : List Int) : Wp.costF r [] 0 es = if es = [] then some 0 else none := by
  cases es with
  | nil => rfl
  | cons e es =>
    rw [Wp.costF, if_pos (by simp only [List.length_nil]; omega), if_neg (by simp)]
theorem cstA_none {l : List BxI} {W F R H : Int} (h : (chkK l W F R H).1 ≠ 0 ∨ l = []) (es : List Int) : (cstA l W F R H es).getD 0 = 0 ∧ (cstA l W F R H es).isSome = decide ((chkK l W F R H).1 = 0 ∧ es = []) := by
  by_cases h0 : (chkK l W F R H).1 = 0
  · obtain rfl := h.resolve_left (fun q => q h0)
    rw [cstA_ok h0, List.map_nil, costF_nil]
    by_cases he : es = []
    · rw [if_pos he, decide_eq_true ⟨h0, he⟩]
      exact ⟨rfl, rfl⟩
    · rw [if_neg he, decide_eq_false (fun q => he q.2)]
      exact ⟨rfl, rfl⟩
  · unfold cstA
    rw [if_neg h0, decide_eq_false (fun q => h0 q.1)]
    exact ⟨rfl, rfl⟩
theorem calls_val {P : Program} {f : FuncId} {a b : Array Value} {w : World} {R : Ending → World → Prop} (h : a = b) (hc : Calls P f b w R) : Calls P f a w R := h ▸ hc
/-- The lines of whatever boxes. -/
theorem c_LinesA (v : Value) (l : List BxI) (W F R H : Int) (w : World) (h : BxRow w v l) (hn : l.length ≤ 64) :
    Calls Tryz.prog 14 #[v, .agg #[.int .i64 W, .int .i64 F, .int .i64 R, .int .i64 H]] w fun e w' => ∃ u, e = .returned (.tuple #[u, .int .i64 (chkK l W F R H).1]) ∧ w'.ownsRow w.heap.size 3 1 u (linA l W F R H).length (nW (linA l W F R H)) ∧ Ext w w' := by
  by_cases h0 : (chkK l W F R H).1 ≠ 0 ∨ l = []
  · refine (c_Lines0 v l W F R H w h h0).mono ?_
    rintro e w1 ⟨rfl, hx⟩
    refine ⟨_, rfl, ?_, hx⟩
    rw [linA_none h0]
    exact World.ownsRow_nil _ _ _ _
  · have h1 : (chkK l W F R H).1 = 0 := Decidable.byContradiction fun q => h0 (.inl q)
    have h2 : l ≠ [] := fun q => h0 (.inr q)
    obtain ⟨hok, hl, hsm⟩ := chk_ok h1
    have hlen : (l.map unB).length = l.length := List.length_map ..
    obtain ⟨p, cap, rfl, hc, hp⟩ := id h
    obtain ⟨g, o, rfl, _, _⟩ := hp h2
    have key := c_Lines g o cap W F R H (l.map unB) w (by rw [hlen, ← hl]; exact h) hsm (by omega) hok
    rw [hlen] at key
    refine key.mono ?_
    rintro e w1 ⟨u, rfl, hown, hx⟩
    rw [linA_ok h1, h1]
    exact ⟨u, rfl, hown, hx⟩
/-- What lines of whatever boxes cost. -/
theorem c_CostA (v ve : Value) (l : List BxI) (es : List Int) (W F R H : Int) (w : World) (h : BxRow w v l) (hes : IRow w ve es) (hee : ∀ x ∈ es, -9223372036854775808 ≤ x ∧ x ≤ 9223372036854775807) (hel : es.length ≤ 1000000) (hn : l.length ≤ 64) :
    Calls Tryz.prog 16 #[v, .agg #[.int .i64 W, .int .i64 F, .int .i64 R, .int .i64 H], ve] w fun e w' => e = .returned (.tuple #[.int .i64 ((cstA l W F R H es).getD 0), .bool (cstA l W F R H es).isSome]) ∧ Ext w w' := by
  by_cases h0 : (chkK l W F R H).1 ≠ 0 ∨ l = []
  · refine (c_Cost0 v ve l es W F R H w h hes h0).mono ?_
    rintro e w1 ⟨rfl, hx⟩
    have hk := cstA_none h0 es
    rw [hk.1, hk.2]
    exact ⟨rfl, hx⟩
  · have h1 : (chkK l W F R H).1 = 0 := Decidable.byContradiction fun q => h0 (.inl q)
    have h2 : l ≠ [] := fun q => h0 (.inr q)
    obtain ⟨hok, hl, hsm⟩ := chk_ok h1
    have hlen : (l.map unB).length = l.length := List.length_map ..
    obtain ⟨p, cap, rfl, hc, hp⟩ := id h
    obtain ⟨g, o, rfl, _, _⟩ := hp h2
    have key := c_Cost g o cap W F R H (l.map unB) ve es w (by rw [hlen, ← hl]; exact h) hes hee hel hsm (by omega) hok
    rw [hlen] at key
    rw [cstA_ok h1]
    exact key
end Go.Proofs.YtlmkbldiicbejaaGreatDoor
end

section
namespace Go.Proofs.YtlmkbldiicbejaaGreatDoor
open Go.RowKit Go.Rp Go.Maps Go.Cl Go.Shelf Go.Gr Go.Ln

theorem wrOk_how {W F R : Int} : WrOk W F R 0 ↔ WrOk W F R 1 := by
  unfold WrOk
  constructor
  · rintro ⟨a, b, c, d, _⟩
    exact ⟨a, b, c, d, .inr rfl⟩
  · rintro ⟨a, b, c, d, _⟩
    exact ⟨a, b, c, d, .inl rfl⟩
theorem chk_how (l : List BxI) (W F R : Int) : chkK l W F R 0 = chkK l W F R 1 := by
  unfold chkK
  by_cases h : WrOk W F R 0
  · rw [if_pos h, if_pos (wrOk_how.1 h)]
  · rw [if_neg h, if_neg (fun q => h (wrOk_how.2 q))]
theorem cst_how (l : List BxI) (W F R : Int) (es : List Int) : cstA l W F R 0 es = cstA l W F R 1 es := by
  unfold cstA
  rw [chk_how]
theorem cstA_chk {l : List BxI} {W F R H : Int} {es : List Int} (h : (cstA l W F R H es).isSome = true) : (chkK l W F R H).1 = 0 := by
  unfold cstA at h
  split at h
  · assumption
  · cases h
theorem lin_greedy {l : List BxI} {W F R : Int} (h : (chkK l W F R 0).1 = 0) : linA l W F R 0 = Wp.linesK ⟨W, F, R⟩ false (l.map unB) := linA_ok h
theorem lin_even {l : List BxI} {W F R : Int} (h : (chkK l W F R 1).1 = 0) : linA l W F R 1 = Wp.linesK ⟨W, F, R⟩ true (l.map unB) := linA_ok h
/-- WrapFewest. -/
theorem fewA {l : List BxI} {W F R : Int} {es : List Int} (h : (cstA l W F R 0 es).isSome = true) : (chkK l W F R 0).1 = 0 ∧ (linA l W F R 0).length ≤ es.length := by
  have h0 := cstA_chk h
  refine ⟨h0, ?_⟩
  rw [cstA_ok h0] at h
  rw [lin_greedy h0]
  obtain ⟨c, hc⟩ := Option.isSome_iff_exists.1 h
  exact Wp.fewest _ _ es c hc
/-- WrapLeast. -/
theorem leastA {l : List BxI} {W F R : Int} (h : (chkK l W F R 1).1 = 0) : ∃ best d : Int, cstA l W F R 1 ((linA l W F R 1).map Int.ofNat) = some best ∧ (∀ es c, cstA l W F R 1 es = some c → best < c ∨ (best = c ∧ (linA l W F R 1).length ≤ es.length)) ∧
    (chkK l W F R 0).1 = 0 ∧ cstA l W F R 0 ((linA l W F R 0).map Int.ofNat) = some d ∧ best ≤ d ∧ (linA l W F R 0).length ≤ (linA l W F R 1).length := by
  have h0 : (chkK l W F R 0).1 = 0 := by rw [chk_how]; exact h
  obtain ⟨best, h1, h2⟩ := Wp.least ⟨W, F, R⟩ (l.map unB)
  obtain ⟨d, hd⟩ := Wp.lines_ok ⟨W, F, R⟩ false (l.map unB)
  refine ⟨best, d, ?_, ?_, h0, ?_, ?_, ?_⟩
  · rw [cstA_ok h, lin_even h]; exact h1
  · intro es c hc
    rw [cstA_ok h] at hc
    rw [lin_even h]
    exact h2 es c hc
  · rw [cstA_ok h0, lin_greedy h0]; exact hd
  · rcases h2 _ d hd with q | q
    · omega
    · omega
  · rw [lin_greedy h0, lin_even h]
    have := Wp.fewest ⟨W, F, R⟩ (l.map unB) _ best h1
    simpa using this
/-- WrapWider: more width, no more lines. -/
theorem widerA {l : List BxI} {W F R m : Int} (hm : 0 ≤ m) (h : (chkK l W F R 0).1 = 0) (h2 : (chkK l (W + m) F R 0).1 = 0) : (linA l (W + m) F R 0).length ≤ (linA l W F R 0).length := by
  rw [lin_greedy h, lin_greedy h2]
  exact Wp.wider ⟨W, F, R⟩ m hm (l.map unB)
/-- How many paragraphs there are. -/
def nPar (l : List BxI) : Nat → Nat → Nat
  | 0, _ => 0
  | f + 1, i => if h : i < l.length then (if l[i].m = true ∨ i + 1 = l.length then 1 else 0) + nPar l f (i + 1) else 0
theorem nPar_cnt (l : List BxI) : ∀ f i, nPar l f i = Wp.cntP (l.map unB) f i
  | 0, _ => rfl
  | f + 1, i => by
    rw [nPar, Wp.cntP, List.length_map]
    by_cases hi : i < l.length
    · have : (Wp.gB (l.map unB) i).m = l[i].m := by
        unfold Wp.gB
        rw [List.getD_eq_getElem?_getD, List.getElem?_map, List.getElem?_eq_getElem hi]
        rfl
      rw [dif_pos hi, if_pos hi, nPar_cnt l f (i + 1), this]
    · rw [dif_neg hi, if_neg hi]
theorem nPar_full (l : List BxI) : ∀ f i, l.length ≤ i → nPar l f i = 0
  | 0, _, _ => rfl
  | f + 1, i, h => by rw [nPar, dif_neg (by omega)]
theorem nPar_fuel (l : List BxI) : ∀ f g i, l.length ≤ f + i → l.length ≤ g + i → nPar l f i = nPar l g i
  | 0, g, i, h1, h2 => by rw [nPar_full l g i (by omega)]; rfl
  | f + 1, 0, i, h1, h2 => by rw [nPar_full l (f + 1) i (by omega)]; rfl
  | f + 1, g + 1, i, h1, h2 => by rw [nPar, nPar, nPar_fuel l f g (i + 1) (by omega) (by omega)]
theorem nPar_step (l : List BxI) {i : Nat} (hi : i < l.length) : nPar l l.length i = (if l[i].m = true ∨ i + 1 = l.length then 1 else 0) + nPar l l.length (i + 1) := by
  rw [nPar_fuel l l.length (l.length + 1) i (by omega) (by omega), nPar, dif_pos hi]
theorem nPar_le (l : List BxI) : ∀ f i, nPar l f i ≤ f
  | 0, _ => Nat.le_refl _
  | f + 1, i => by
    rw [nPar]
    split
    · have := nPar_le l f (i + 1)
      split <;> omega
    · omega
/-- WrapWider: one line a paragraph. -/
theorem oneA {l : List BxI} {W F R : Int} (h : (chkK l W F R 0).1 = 0) : nPar l l.length 0 ≤ (linA l W F R 0).length ∧ (chkK l W F R 1).1 = 0 ∧ ((linA l W F R 0).length = nPar l l.length 0 → cstA l W F R 1 ((linA l W F R 0).map Int.ofNat) = some 0 → linA l W F R 1 = linA l W F R 0) := by
  have h1 : (chkK l W F R 1).1 = 0 := by rw [← chk_how]; exact h
  have hk := Wp.one_each ⟨W, F, R⟩ (l.map unB)
  rw [nPar_cnt, lin_greedy h, lin_even h1]
  rw [List.length_map] at hk
  refine ⟨hk.1, h1, fun a b => ?_⟩
  rw [cstA_ok h1] at b
  exact hk.2 a b
/-- WrapAll. -/
theorem allA {l : List BxI} {W F R : Int} (h : (chkK l W F R 1).1 = 0) : cstA l W F R 1 ((linA l W F R 1).map Int.ofNat) = some (Wp.allM ⟨W, F, R⟩ (l.map unB) (l.length + 1) [] 0 (-1)) := by
  rw [cstA_ok h, lin_even h]
  have := Wp.all_least ⟨W, F, R⟩ (l.map unB)
  rwa [List.length_map] at this
end Go.Proofs.YtlmkbldiicbejaaGreatDoor
end
