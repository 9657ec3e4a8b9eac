/-
  Sets put together; what is in none.
-/
import Derived.Test.YtlmkbldiicbejaaGreatDoorPrP
import Derived.Test.YtlmkbldiicbejaaGreatDoorShelfG
import Derived.Laws.AppendOwnNone
namespace Go.Proofs.YtlmkbldiicbejaaGreatDoor
open Go.RowKit Go.Rp Go.Maps Go.Cl Go.Shelf

theorem zeroR_len (k : Nat) : (Builtin.zeroCells #[.int .i32 0, .int .i32 0] k).size = k * 2 := by simp [Builtin.zeroCells]
theorem c_Grow (n : Nat) (w : World) (hn : n ≤ 10000) : Calls Tryz.prog 130 #[.slice none 0 0, .int .i64 (n : Nat)] w fun e w' => ∃ v, e = .returned v ∧ w'.ownsRow w.heap.size 139 2 v 0 [] ∧ Ext w w' := by
  obtain ⟨i0, hi0, hz0, hz1, hz3⟩ := info_parts Tryz.infoRg
  by_cases h0 : n = 0
  · subst h0
    refine (Any8.slices_Grow_room Tryz.growR none 0 0 0 w (by omega) (by omega) (by omega) (by omega)).mono ?_
    rintro e w' ⟨rfl, rfl⟩
    exact ⟨_, rfl, World.ownsRow_nil _ _ _ _, Ext.refl _⟩
  · refine (Any8.slices_Grow_grow Tryz.growR i0 (.agg #[.int .i32 0, .int .i32 0]) hi0 hz0 (by omega) none 0 0 n [] w (by omega) (by omega) (by rw [hz3]; omega) (by omega) (by simp) (fun _ => rfl) (fun a e => by cases e)).mono ?_
    rintro e w' ⟨rfl, rfl⟩
    have hge := grownCap_ge w (0 + n) 0 139
    have hle := grownCap_le_maxLen w (0 + n) 0 139 (by unfold maxLen; omega)
    refine ⟨_, rfl, ⟨rfl, .inr ⟨w.heap.size, _, _, rfl, Nat.le_refl _, World.alloc_heap_new _ _, Nat.zero_le _, ?_⟩⟩, (Ext.refl w).drew.alloc _⟩
    refine ⟨hle, ?_, by simp⟩
    show (#[] ++ Builtin.zeroCells #[.int .i32 0, .int .i32 0] (0 + n - 0) ++ Builtin.zeroCells #[.int .i32 0, .int .i32 0] (grownCap w (0 + n) 0 139 - (0 + n))).size = grownCap w (0 + n) 0 139 * 2
    rw [Array.size_append, Array.size_append, zeroR_len, zeroR_len]
    simp only [List.size_toArray, List.length_nil]
    omega
/-- No nil slice but one that has no room. -/
def NilOk (v : Value) : Prop := ∀ n c, v = .slice none n c → c = 0
theorem NilOk.of_own {W : World} {B n k : Nat} {T : TypeId} {v : Value} {xs : List Value} (h : W.ownsRow B T k v n xs) : NilOk v := fun m c e => by
  rcases h.2 with ⟨e1, h0⟩ | ⟨g', cap, cur, e1, _⟩
  · rw [e] at e1; cases e1; rfl
  · rw [e] at e1; cases e1
section
variable {ops : Array Oper} {rest : List Oper} {o : Oper} {a : Act} {Q : Exit → Act → World → Prop}
/-- A row of ranges behind a row of the call's own. -/
theorem wpList_appR (hgd : o.guard = none) (s x : Operand) (ho : o.op = .call { callee := .builtin .append, args := #[s, x], argTypes := #[130, 130] })
    {B : Nat} {wr : World} {v u : Value} {D l : List (Nat × Nat)} (hs : a.eval s = v) (hown : wr.ownsRow B 139 2 v D.length (rgW D)) (hB : B ≤ wr.heap.size)
    (hxv : a.eval x = u) (hu : RRow wr u l) (hn : NilOk u) (hD : D.length ≤ 1000000) (hl : l.length ≤ 1000000)
    (h : ∀ v' w', w'.ownsRow B 139 2 v' (D ++ l).length (rgW (D ++ l)) → wr.grownBy w' v.ownBlock → wpList Tryz.prog ops Q rest (a.put o.dst v') w') : wpList Tryz.prog ops Q (o :: rest) a wr := by
  obtain ⟨i0, hi0, hz0, hz1, hz3⟩ := info_parts Tryz.infoRg
  obtain ⟨p, cap, rfl, hcap, hc⟩ := hu
  have hD2 : (D ++ l).length = D.length + l.length := List.length_append
  cases p with
  | none =>
    have hl0 : l = [] := by
      rcases l with _ | ⟨y, t⟩
      · rfl
      · obtain ⟨g, off, e, _⟩ := hc (by simp)
        cases e
    subst hl0
    have := hn _ _ rfl
    subst this
    refine wpList_append_own_none hgd s x 130 ho B 139 i0 2 Tryz.underlying130 hi0 v D.length (rgW D) hs hown hxv ?_
    refine h v wr ?_ (World.grownBy.refl _ _)
    rw [List.append_nil]
    exact hown
  | some ad =>
    refine wpList_append_own wr hgd s x 130 ho B 139 i0 (.agg #[.int .i32 0, .int .i32 0]) 2 8 Tryz.underlying130 hi0 hz0 hz1 hz3 rfl (by decide) v D.length (rgW D) hs hown ad l.length cap (rgW l) hxv (rgW_len l) (fun j z hz => ?_) (rgW_one l) (by unfold maxLen; omega) (by omega) hB ?_
    · obtain ⟨hj, e⟩ := List.getElem?_eq_some_iff.1 hz
      rw [rgW_len] at hj
      have hne : l ≠ [] := by
        intro e0
        subst e0
        simp at hj
      obtain ⟨g, off, e2, h3⟩ := hc hne
      obtain rfl := Option.some.inj e2
      rw [Addr.add_lit]
      have hi : j / 2 < l.length := by omega
      obtain ⟨a1, a2⟩ := h3 (j / 2) hi
      obtain ⟨b1, b2⟩ := rgW_at l (j / 2) hi
      rcases Nat.mod_two_eq_zero_or_one j with hm | hm
      · rw [show j / 2 * 2 = j by omega] at a1 b1
        rw [hz] at b1
        rw [Option.some.inj b1]
        exact a1
      · rw [Nat.add_assoc, show j / 2 * 2 + 1 = j by omega] at a2
        rw [show j / 2 * 2 + 1 = j by omega, hz] at b2
        rw [Option.some.inj b2]
        exact a2
    · intro v' w' g1 g2 _
      exact h v' w' (by rw [rgW_app, hD2]; exact g1) g2
end
set_option maxRecDepth 100000 in
set_option maxHeartbeats 4000000 in
/-- Nothing and a row put together. -/
theorem c_Concat (g : Nat) (v : Value) (l : List (Nat × Nat)) (w : World) (h : RRow w v l) (hnv : NilOk v) (hl : l.length ≤ 10000) (h0 : w.cell? ⟨g, 0, none⟩ = some (.slice none 0 0)) (h1 : w.cell? ⟨g, 1, none⟩ = some v) :
    Calls Tryz.prog 105 #[.slice (some ⟨g, 0, none⟩) 2 2] w fun e w' => ∃ u, e = .returned u ∧ w'.ownsRow w.heap.size 139 2 u l.length (rgW l) ∧ Ext w w' := by
  have HV := Lib.hid h
  have HNV := Lib.hid hnv
  clear hnv
  obtain ⟨p, cap, rfl, hcap, hc⟩ := h
  have HC := Lib.hid hc
  have hlI : ((l.length : Nat) : Int) ≤ 10000 := by omega
  clear hc
  go_enter Tryz.func105, Tryz.ntmps105
  go_wp2_with fail
  go_loopw [3, 5, 11] (fun zv sv iv W => W = w ∧ ∃ i : Nat, iv = .int .i64 (i : Nat) ∧ ((i = 0 ∧ zv = .int .i64 0) ∨ (i = 1 ∧ zv = .int .i64 0) ∨ (i = 2 ∧ zv = .int .i64 (l.length : Nat)))) (fun _ _ iv _ => 3 - (intOf iv).toNat)
  case atStart => exact ⟨rfl, 0, rfl, .inl ⟨rfl, rfl⟩⟩
  case round =>
    obtain ⟨ew, i, rfl, hc⟩ := hrel
    obtain rfl := ew.symm
    rcases hc with ⟨rfl, rfl⟩ | ⟨rfl, rfl⟩ | ⟨rfl, rfl⟩
    · go_wp2_with fail
      exact ⟨⟨trivial, 1, rfl, .inr (.inl ⟨rfl, rfl⟩)⟩, by simp [intOf]⟩
    · go_wp2_with fail
      exact ⟨⟨trivial, 2, rfl, .inr (.inr ⟨rfl, rfl⟩)⟩, by simp [intOf]⟩
    · go_wp2_with fail
      refine (c_Grow l.length w hl).mono ?_
      rintro e w2 ⟨nv, rfl, hn, hx2⟩
      obtain ⟨pn, cn, rfl⟩ := own_slice hn
      have HN := Lib.hid (And.intro hn hx2)
      have H0 := Lib.hid h0
      have H1 := Lib.hid h1
      clear hn hx2 h0 h1
      go_wp2_with fail
      obtain ⟨W2, rfl⟩ : ∃ W2, W2 = w2 := ⟨_, rfl⟩
      go_loopw [6, 8, 27] (fun nv sv iv W => ∃ (i : Nat) (D : List (Nat × Nat)), iv = .int .i64 (i : Nat) ∧ Hid (W.ownsRow w.heap.size 139 2 nv D.length (rgW D)) ∧ Hid (Ext w W) ∧ ((i = 0 ∧ D = []) ∨ (i = 1 ∧ D = []) ∨ (i = 2 ∧ D = l))) (fun _ _ iv _ => 3 - (intOf iv).toNat)
      case atStart => exact ⟨0, [], rfl, Lib.hid HN.out.1, Lib.hid HN.out.2, .inl ⟨rfl, rfl⟩⟩
      case round =>
        obtain ⟨i, D, rfl, HR, HX, hc⟩ := hrel
        obtain ⟨W, rfl⟩ : ∃ W, W = wr := ⟨_, rfl⟩
        have e0 := HX.out.cell H0.out
        have e1 := HX.out.cell H1.out
        rcases hc with ⟨rfl, rfl⟩ | ⟨rfl, rfl⟩ | ⟨rfl, rfl⟩
        · obtain ⟨pn, cn, rfl⟩ := own_slice HR.out
          go_wp2_with (at_builtin; refine Hid.out ?_)
          refine Lib.hid ?_
          refine wpList_appR rfl (.tmp 31) (.tmp 32) rfl rfl HR.out HX.out.sz rfl (RRow.nil W) (fun n c e => by cases e; rfl) (by simp) (by simp) ?_
          intro v' w' g1 g2
          have HN := Lib.hid (show w'.ownsRow w.heap.size 139 2 v' ([] : List (Nat × Nat)).length (rgW []) from g1)
          have HX2 := Lib.hid (show Ext w w' from Below.grown HX.out g2 HX.out.sz (fun k e => (HR.out.lt k e).1))
          clear g1 g2 e0 e1
          go_wp2_with fail
          exact ⟨⟨1, [], rfl, HN, HX2, .inr (.inl ⟨rfl, rfl⟩)⟩, by simp [intOf]⟩
        · obtain ⟨pn, cn, rfl⟩ := own_slice HR.out
          go_wp2_with (at_builtin; refine Hid.out ?_)
          refine Lib.hid ?_
          refine wpList_appR rfl (.tmp 31) (.tmp 32) rfl rfl HR.out HX.out.sz rfl (HV.out.ext HX.out) HNV.out (by simp) (by omega) ?_
          intro v' w' g1 g2
          have HN := Lib.hid (show w'.ownsRow w.heap.size 139 2 v' l.length (rgW l) from g1)
          have HX2 := Lib.hid (show Ext w w' from Below.grown HX.out g2 HX.out.sz (fun k e => (HR.out.lt k e).1))
          clear g1 g2 e0 e1
          go_wp2_with fail
          exact ⟨⟨2, l, rfl, HN, HX2, .inr (.inr ⟨rfl, rfl⟩)⟩, by simp [intOf]⟩
        · go_wp2_with fail
          exact ret_one rfl rfl rfl ⟨_, rfl, HR.out, HX.out⟩
set_option maxRecDepth 100000 in
set_option maxHeartbeats 4000000 in
/-- Nothing or a set. -/
theorem c_Or (v : Value) (l : List (Nat × Nat)) (w : World) (h : RRow w v l) (hnv : NilOk v) (hok : RgsOk l) :
    Calls Tryz.prog 76 #[.slice none 0 0, v] w fun e w' => ∃ u, e = .returned u ∧ w'.ownsRow w.heap.size 139 2 u (normR l).length (rgW (normR l)) ∧ Ext w w' := by
  have HV := Lib.hid h
  have HNV := Lib.hid hnv
  have HOK := Lib.hid hok
  obtain ⟨p, cap, rfl, hcap, hc⟩ := h
  clear hc hnv hok
  go_enter Tryz.func76, Tryz.ntmps76
  go_wp2_with fail
  have hx1 := (Ext.refl w).alloc (.cells #[.slice none 0 0, .slice p l.length cap] 130)
  have hb1 := World.alloc_heap_new w (.cells #[.slice none 0 0, .slice p l.length cap] 130)
  generalize w.alloc (.cells #[.slice none 0 0, .slice p l.length cap] 130) = w1 at hx1 hb1 ⊢
  obtain ⟨g, hg⟩ : ∃ g, w.heap.size = g := ⟨_, rfl⟩
  rw [hg] at hb1
  have HG := Lib.hid hg
  simp only [hg]
  clear hg
  refine (c_Concat g (.slice p l.length cap) l w1 (HV.out.ext hx1) HNV.out HOK.out.len ((cell_blk hb1 0).trans rfl) ((cell_blk hb1 1).trans rfl)).mono ?_
  rintro e w2 ⟨u, rfl, hu, hx2⟩
  have HU := Lib.hid (And.intro (RRow.of_own hu) (hx1.trans hx2))
  obtain ⟨pu, cu, rfl⟩ := own_slice hu
  clear hu hx1 hx2 hb1
  go_wp2_with fail
  refine (c_Norm (.slice pu l.length cu) l w2 HU.out.1 HOK.out).mono ?_
  rintro e w3 ⟨x, rfl, hx, hx3⟩
  have HX := Lib.hid (And.intro hx hx3)
  obtain ⟨px, cx, rfl⟩ := own_slice hx
  clear hx hx3
  go_wp2_with fail
  exact ret_one rfl rfl rfl ⟨_, rfl, own_lower HX.out.1 HU.out.2.sz, HU.out.2.trans HX.out.2⟩
set_option maxRecDepth 100000 in
set_option maxHeartbeats 4000000 in
theorem c_Not (v : Value) (l : List (Nat × Nat)) (w : World) (h : RRow w v l) (hok : RgsOk l) :
    Calls Tryz.prog 79 #[v] w fun e w' => ∃ u, e = .returned u ∧ (∃ n xs, w'.ownsRow w.heap.size 139 2 u n xs) ∧ Ext w w' := by
  have HV := Lib.hid h
  have HOK := Lib.hid hok
  obtain ⟨p, cap, rfl, hcap, hc⟩ := h
  clear hc hok
  go_enter Tryz.func79, Tryz.ntmps79
  go_wp2_with fail
  refine (c_Norm (.slice p l.length cap) l w HV.out HOK.out).mono ?_
  rintro e w1 ⟨x, rfl, hx, hx1⟩
  have hm : ∀ x ∈ normR l, RgOk x := normR_ok HOK.out.ok
  have hmL := normR_len l
  have hml := HOK.out.len
  have hrow := RRow.of_own hx
  clear HV
  generalize normR l = m at hx hm hmL hrow
  have HM := Lib.hid hm
  have HX1 := Lib.hid hx1
  obtain ⟨pm, cm, e1, hcm, hcel⟩ := hrow
  subst e1
  have HC := Lib.hid hcel
  have hmI : ((m.length : Nat) : Int) ≤ 10000 := by omega
  obtain ⟨W1, rfl⟩ : ∃ W1, W1 = w1 := ⟨_, rfl⟩
  clear hx hm hcel hx1 hmL hml
  go_wp2_with fail
  go_loopw [3, 4, 6, 10] (fun ov nv xv iv W => ∃ (i k n : Nat) (xs : List Value), iv = .int .i64 (i : Nat) ∧ i ≤ m.length ∧ nv = .int .i32 (k : Nat) ∧ k ≤ 1114112 ∧ n ≤ i ∧ Hid (W.ownsRow W1.heap.size 139 2 ov n xs) ∧ Hid (Ext W1 W)) (fun _ _ _ iv _ => m.length + 1 - (intOf iv).toNat)
  case atStart => exact ⟨0, 0, 0, [], rfl, Nat.zero_le _, rfl, by omega, Nat.le_refl _, Lib.hid (World.ownsRow_nil _ _ _ _), Lib.hid (Ext.refl _)⟩
  case round =>
    obtain ⟨i, k, n, xs, rfl, hi, rfl, hk, hn, HR, HX⟩ := hrel
    obtain ⟨W, rfl⟩ : ∃ W, W = wr := ⟨_, rfl⟩
    obtain ⟨po, co, rfl⟩ := own_slice HR.out
    have kI : ((k : Nat) : Int) ≤ 1114112 := by omega
    have kJ : (0 : Int) ≤ (k : Nat) := by omega
    by_cases hlt : i < m.length
    · have hI : ((i : Nat) : Int) < (m.length : Nat) := by omega
      have hd : decide (i < m.length) = true := decide_eq_true hlt
      obtain ⟨g, off, rfl, hcel⟩ := HC.out (by intro e; subst e; simp at hlt)
      obtain ⟨k0, k1⟩ := hcel i hlt
      have hrg := HM.out _ (List.getElem_mem hlt)
      unfold RgOk at hrg
      obtain ⟨x, hx⟩ : ∃ x, m[i] = x := ⟨_, rfl⟩
      obtain ⟨a, b⟩ := x
      rw [hx] at k0 k1 hrg
      simp only at k0 k1 hrg
      have e0 := HX.out.cell k0
      have e1 := HX.out.cell k1
      have aI : ((a : Nat) : Int) ≤ (b : Nat) := by omega
      have bI : ((b : Nat) : Int) ≤ 1114111 := by omega
      clear hcel k0 k1 hx hrg
      by_cases hka : k < a
      · have c1 : ((k : Nat) : Int) < (a : Nat) := by omega
        have c2 : decide (k < a) = true := decide_eq_true hka
        go_wp2_with (at_builtin; refine Hid.out ?_)
        refine Lib.hid ?_
        have hsz := World.size_alloc W (.cells #[.int .i32 (a : Nat), .int .i32 (b : Nat)] 139)
        have hbn := World.alloc_heap_new W (.cells #[.int .i32 (a : Nat), .int .i32 (b : Nat)] 139)
        have hxb := (Ext.refl W).alloc (.cells #[.int .i32 (a : Nat), .int .i32 (b : Nat)] 139)
        have hr2 := ownsRow_ext HR.out hxb
        have hx2 := HX.out.trans hxb
        generalize W.alloc (.cells #[.int .i32 (a : Nat), .int .i32 (b : Nat)] 139) = Wb at hxb hr2 hx2 hsz hbn ⊢
        obtain ⟨xb, hxbe⟩ : ∃ xb, W.heap.size = xb := ⟨_, rfl⟩
        rw [hxbe] at hsz hbn
        have HNR := Lib.hid (show ∀ j, (Value.slice po n co).ownBlock = some j → j < xb from fun j e => hxbe ▸ (HR.out.lt j e).2)
        simp only [hxbe]
        clear hxbe
        obtain ⟨i0, hi0, hz0, hz1, hz3⟩ := info_parts Tryz.infoRg
        refine wpList_append_own _ rfl (.tmp 18) (.tmp 24) 130 rfl W1.heap.size 139 i0 (.agg #[.int .i32 0, .int .i32 0]) 2 8 Tryz.underlying130 hi0 hz0 hz1 hz3 rfl (by decide) (.slice po n co) n xs rfl (ownsRow_ext hr2 ((Ext.refl Wb).alloc _)) ⟨xb + 1, 0, none⟩ 1 1 [.int .i32 (k : Nat), .int .i32 ((a : Nat) - 1)] rfl rfl (by
          rw [← hsz]
          exact World.news_of_block (World.alloc_heap_new Wb _)) (by intro u hu; simp at hu; rcases hu with rfl | rfl <;> rfl) (by unfold maxLen; omega) (by omega) (Nat.le_trans hx2.sz ((Ext.refl Wb).alloc _).sz) ?_
        intro v' w9 g1 g2 _
        have hbx : w9.heap[xb]? = some (.cells #[.int .i32 (a : Nat), .int .i32 (b : Nat)] 139 (0, 0)) := (g2.block xb (Nat.lt_of_lt_of_le (blk_lt hbn) ((Ext.refl Wb).alloc _).sz) (fun e => Nat.lt_irrefl _ (HNR.out xb e.symm))).trans (((Ext.refl Wb).alloc _).blk hbn)
        have HO := Lib.hid (And.intro g1 (show Ext W1 w9 from Below.grown (hx2.trans ((Ext.refl Wb).alloc _)) g2 (Nat.le_trans hx2.sz ((Ext.refl Wb).alloc _).sz) (fun j e => (hr2.lt j e).1)))
        have t1 : w9.cell? ⟨xb, 1, none⟩ = some (.int .i32 (b : Nat)) := (cell_blk hbx 1).trans rfl
        obtain ⟨pq, cq, rfl⟩ := own_slice g1
        clear g1 g2 hbx hbn hsz hxb hr2 hx2 e0 e1
        go_wp2_with fail
        exact ⟨⟨i + 1, b + 1, n + 1, _, by simp, by omega, by simp, by omega, by omega, Lib.hid HO.out.1, Lib.hid HO.out.2⟩, by simp only [intOf]; omega⟩
      · have c1 : ¬ ((k : Nat) : Int) < (a : Nat) := by omega
        have c2 : decide (k < a) = false := decide_eq_false hka
        go_wp2_with fail
        have hxb := (Ext.refl W).alloc (.cells #[.int .i32 (a : Nat), .int .i32 (b : Nat)] 139)
        exact ⟨⟨i + 1, b + 1, n, xs, by simp, by omega, by simp, by omega, by omega, Lib.hid (ownsRow_ext HR.out hxb), Lib.hid (HX.out.trans hxb)⟩, by simp only [intOf]; omega⟩
    · have hI : ¬ ((i : Nat) : Int) < (m.length : Nat) := by omega
      have hd : decide (i < m.length) = false := decide_eq_false hlt
      by_cases hkl : k ≤ 1114111
      · have c1 : ((k : Nat) : Int) ≤ 1114111 := by omega
        clear hlt
        go_wp2_with (at_builtin; refine Hid.out ?_)
        refine Lib.hid ?_
        obtain ⟨i0, hi0, hz0, hz1, hz3⟩ := info_parts Tryz.infoRg
        refine wpList_app rfl (.tmp 32) (.tmp 35) 130 rfl 139 i0 (.agg #[.int .i32 0, .int .i32 0]) 2 8 Tryz.underlying130 hi0 hz0 hz1 hz3 rfl (by decide) rfl HR.out HX.out [.int .i32 (k : Nat), .int .i32 1114111] rfl rfl (by intro u hu; simp at hu; rcases hu with rfl | rfl <;> rfl) (by omega) (by decide) ?_
        intro v' w9 g1 hx9 _
        have HO := Lib.hid (And.intro g1 hx9)
        obtain ⟨pq, cq, rfl⟩ := own_slice g1
        clear g1 hx9
        go_wp2_with fail
        exact ret_one rfl rfl rfl ⟨_, rfl, ⟨_, _, own_lower HO.out.1 HX1.out.sz⟩, HX1.out.trans HO.out.2⟩
      · have c1 : ¬ ((k : Nat) : Int) ≤ 1114111 := by omega
        clear hlt
        go_wp2_with fail
        exact ret_one rfl rfl rfl ⟨_, rfl, ⟨_, _, own_lower HR.out HX1.out.sz⟩, HX1.out.trans HX.out⟩
end Go.Proofs.YtlmkbldiicbejaaGreatDoor
