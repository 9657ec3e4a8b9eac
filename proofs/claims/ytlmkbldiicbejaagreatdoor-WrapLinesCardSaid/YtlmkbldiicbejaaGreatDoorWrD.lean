/-
  The greedy lines of a paragraph.
-/
import Derived.Test.YtlmkbldiicbejaaGreatDoorWrBC
import Derived.Maps.AppendAt
import Derived.RangeFuncBox
namespace Go.Proofs.YtlmkbldiicbejaaGreatDoor
open Go.RowKit Go.Rp Go.Maps Go.Cl Go.Shelf Go.Gr

/-- Only behind the last box a line must end. -/
def IsPar (L : List Wp.Bx) : Prop := ∀ j, j + 1 < L.length → (Wp.gB L j).m = false
theorem IsPar.lst {L : List Wp.Bx} (h : IsPar L) {j : Nat} (hj : j < L.length) : Wp.lst L j = L.length - 1 :=
  Wp.lst_uniq L (by omega) (fun q => by omega) (fun k _ h2 => ⟨by omega, h k (by omega)⟩)
theorem IsPar.sz {L : List Wp.Bx} (h : IsPar L) (i : Nat) {j : Nat} (hj : j < L.length) : Wp.sz L i j = szP L i j := by
  unfold Wp.sz szP
  rw [h.lst hj]
  have : (j = L.length - 1) ↔ (j + 1 = L.length) := by omega
  simp only [this]
theorem IsPar.room {L : List Wp.Bx} (h : IsPar L) (r : Wp.Wr) {i : Nat} (hi : i < L.length) : Wp.room r L i = if i = 0 then r.w - r.f else r.w - r.r := by
  unfold Wp.room Wp.start
  by_cases h0 : i = 0
  · subst h0; simp
  · have e1 : (i == 0) = false := by simp; omega
    rw [e1, h (i - 1) (by omega), if_neg h0]
    simp
theorem IsPar.fit {L : List Wp.Bx} (h : IsPar L) (r : Wp.Wr) {i j : Nat} (hi : i < L.length) (hj : j < L.length) : Wp.fit r L i j = (i == j || decide ((szP L i j : Int) ≤ if i = 0 then r.w - r.f else r.w - r.r)) := by
  unfold Wp.fit
  rw [h.sz i hj, h.room r hi]
theorem IsPar.cost {L : List Wp.Bx} (h : IsPar L) (r : Wp.Wr) {i j : Nat} (hi : i < L.length) (hj : j < L.length) : Wp.cost r L i j = if (if i = 0 then r.w - r.f else r.w - r.r) - (szP L i j : Nat) < 0 then 10 * ((if i = 0 then r.w - r.f else r.w - r.r) - (szP L i j : Nat)) * ((if i = 0 then r.w - r.f else r.w - r.r) - (szP L i j : Nat)) else if j + 1 = L.length then 0 else ((if i = 0 then r.w - r.f else r.w - r.r) - (szP L i j : Nat)) * ((if i = 0 then r.w - r.f else r.w - r.r) - (szP L i j : Nat)) := by
  unfold Wp.cost
  simp only
  rw [h.sz i hj, h.room r hi, h.lst hj]
  have : (j = L.length - 1) ↔ (j + 1 = L.length) := by omega
  simp only [this]
theorem lastFit_app (r : Wp.Wr) (l : List Wp.Bx) (i : Nat) : ∀ (xs ys : List Nat) (b : Nat), Wp.lastFit r l i (xs ++ ys) b = Wp.lastFit r l i ys (Wp.lastFit r l i xs b)
  | [], _, _ => rfl
  | x :: xs, ys, b => by rw [List.cons_append, Wp.lastFit, Wp.lastFit, lastFit_app r l i xs ys]
/-- The last box to which a line may go, of those up to a number. -/
def bestUp (r : Wp.Wr) (L : List Wp.Bx) (i j : Nat) : Nat := Wp.lastFit r L i (List.range' i (j - i)) i
theorem bestUp_self (r : Wp.Wr) (L : List Wp.Bx) (i : Nat) : bestUp r L i i = i := by
  unfold bestUp
  rw [Nat.sub_self]
  rfl
theorem bestUp_succ (r : Wp.Wr) (L : List Wp.Bx) {i j : Nat} (h : i ≤ j) : bestUp r L i (j + 1) = if Wp.fit r L i j = true then j else bestUp r L i j := by
  unfold bestUp
  obtain ⟨k, rfl⟩ : ∃ k, j = i + k := ⟨j - i, by omega⟩
  rw [show i + k + 1 - i = k + 1 by omega, List.range'_concat, lastFit_app, Nat.one_mul, show i + k - i = k by omega]
  rfl
theorem bestUp_le (r : Wp.Wr) (L : List Wp.Bx) {i : Nat} : ∀ k, i ≤ bestUp r L i (i + k) ∧ bestUp r L i (i + k) ≤ i + k
  | 0 => by rw [Nat.add_zero, bestUp_self]; omega
  | k + 1 => by
    have := bestUp_le r L (i := i) k
    rw [← Nat.add_assoc, bestUp_succ r L (by omega)]
    split <;> omega
theorem bestUp_end {L : List Wp.Bx} (h : IsPar L) (r : Wp.Wr) {i : Nat} (hi : i < L.length) : bestUp r L i L.length = Wp.bestG r L i := by
  unfold bestUp Wp.bestG
  rw [h.lst hi, show L.length - 1 + 1 - i = L.length - i by omega]
set_option maxRecDepth 100000 in
set_option maxHeartbeats 4000000 in
theorem c_greedy1 (p : Option Addr) (n c : Nat) (f W F R H : Int) (i j sz bi pb ib bb : Nat) (w : World) (hW : InK W) (hF : InK F) (hR : InK R)
    (hp : w.heap[pb]? = some (.cells #[.slice p n c, .int .i64 f, .int .i64 W, .int .i64 F, .int .i64 R, .int .i64 H] 61 (0, 0))) (hib : Boxed w ib 3 (.int .i64 (i : Nat))) (hbb : Boxed w bb 3 (.int .i64 (bi : Nat))) :
    Calls Tryz.prog 41 #[.int .i64 (j : Nat), .int .i64 (sz : Nat), .pointer (some ⟨pb, 0, none⟩), .pointer (some ⟨ib, 0, none⟩), .pointer (some ⟨bb, 0, none⟩)] w fun e w' => e = .returned (.bool true) ∧ ∃ w1, Ext w w1 ∧ w' = if (sz : Int) ≤ (if i = 0 then W - F else W - R) then w1.setCell ⟨bb, 0, none⟩ (.int .i64 (j : Nat)) else w1 := by
  have k0 := (cell_blk hp 0).trans rfl
  have k1 := (cell_blk hp 1).trans rfl
  have k2 := (cell_blk hp 2).trans rfl
  have k3 := (cell_blk hp 3).trans rfl
  have k4 := (cell_blk hp 4).trans rfl
  have k5 := (cell_blk hp 5).trans rfl
  have k6 := hib.cell
  have HBB := Lib.hid hbb
  have HRM := Lib.hid (fun w' => c_room p n c f W F R H i w' hW hF hR)
  generalize (if i = 0 then W - F else W - R) = rm at HRM ⊢
  clear hp hib hbb
  go_enter Tryz.func41, Tryz.ntmps41
  go_wp2_with fail
  refine (HRM.out w).mono ?_
  rintro e w1 ⟨rfl, hx1⟩
  have HX1 := Lib.hid hx1
  have hb1 := HBB.out.ext hx1
  have m0 := hb1.cell
  have m1 := hb1.frozen
  clear hx1 hb1 HRM k0 k1 k2 k3 k4 k5 k6
  by_cases hle : ((sz : Nat) : Int) ≤ rm
  · go_wp2_with fail
    exact ret_one rfl rfl rfl ⟨rfl, w1, HX1.out, rfl⟩
  · go_wp2_with fail
    exact ret_one rfl rfl rfl ⟨rfl, HX1.out⟩
section
variable {ops : Array Oper} {rest : List Oper} {o : Oper} {a : Act} {Q : Exit → Act → World → Prop}
/-- A number behind a row of numbers; where the row lies then. -/
theorem wpList_appA (hgd : o.guard = none) (s x : Operand) (ho : o.op = .call { callee := .builtin .append, args := #[s, x], argTypes := #[33, 33] })
    {B : Nat} {wr : World} {v : Value} {n : Nat} {xs : List Value} (hs : a.eval s = v) (hown : wr.ownsRow B 3 1 v n xs) (hB : B ≤ wr.heap.size)
    (k : Int) (nb : Nat) (hnb : nb = wr.heap.size) (hxv : a.eval x = .slice (some ⟨nb, 0, none⟩) 1 1) (hn : n ≤ 100000000)
    (h : ∀ v' w', w'.ownsRow B 3 1 v' (n + 1) (xs ++ [.int .i64 k]) → wr.grownBy w' v.ownBlock → (v'.ownBlock = v.ownBlock ∨ ∃ g, v'.ownBlock = some g ∧ wr.heap.size ≤ g) → wpList Tryz.prog ops Q rest (a.put o.dst v') w') : wpList Tryz.prog ops Q (o :: rest) a (wr.alloc (.cells #[.int .i64 k] 3)) := by
  subst hnb
  obtain ⟨i0, hi0, hz0, hz1, hz3⟩ := info_parts Tryz.infoI
  have hown1 := ownsRow_ext hown ((Ext.refl wr).alloc (.cells #[.int .i64 k] 3))
  refine wpList_append_own_at _ hgd s x 33 ho B 3 i0 (.int .i64 0) 1 8 Tryz.underlying33 hi0 hz0 hz1 hz3 rfl (by decide) v n xs hs hown1 ⟨wr.heap.size, 0, none⟩ 1 1 [.int .i64 k] hxv rfl (World.news_of_block (World.alloc_heap_new wr (.cells #[.int .i64 k] 3))) (by intro u hu; simp at hu; subst hu; rfl) (by unfold maxLen; omega) (by omega) (by rw [World.size_alloc]; omega) ?_
  intro v' w' h2 h3 _ h5
  refine h v' w' h2 ((grown_ext ((Ext.refl wr).alloc _) _).trans h3) ?_
  rcases h5 with h5 | h5
  · exact .inl h5
  · exact .inr ⟨_, h5, by rw [World.size_alloc]; omega⟩
end
/-- The number in a box. -/
def boxNat (v : Value) (V : World) : Nat := match v with
  | .pointer (some q) => (match V.cell? q with
    | some (.int _ n) => n.toNat
    | _ => 0)
  | _ => 0
theorem boxNat_eq {V : World} {b n : Nat} {t : TypeId} (h : Boxed V b t (.int .i64 (n : Nat))) : boxNat (.pointer (some ⟨b, 0, none⟩)) V = n := by
  unfold boxNat
  simp only [h.cell]
  exact Int.toNat_natCast n
/-- What stands while a line is looked for. -/
structure GrI (K : World → Prop) (p : Option Addr) (c f : Nat) (W F R H : Int) (L : List Wp.Bx) (i pb ib bb : Nat) (w : World) (j : Nat) (V : World) : Prop where
  k : K V
  row : BxRow V (.slice p L.length c) (L.map bxI)
  hp : V.heap[pb]? = some (.cells #[.slice p L.length c, .int .i64 (f : Nat), .int .i64 W, .int .i64 F, .int .i64 R, .int .i64 H] 61 (0, 0))
  hi : Boxed V ib 3 (.int .i64 (i : Nat))
  hb : Boxed V bb 3 (.int .i64 (bestUp ⟨W, F, R⟩ L i j : Nat))
  x : Ext w V
theorem GrI.ext {K : World → Prop} (hK : ∀ A C, K A → Ext A C → K C) {p : Option Addr} {c f : Nat} {W F R H : Int} {L : List Wp.Bx} {i pb ib bb : Nat} {w : World} {j : Nat} {A B : World} (h : GrI K p c f W F R H L i pb ib bb w j A) (hx : Ext A B) : GrI K p c f W F R H L i pb ib bb w j B :=
  ⟨hK _ _ h.k hx, h.row.ext hx, hx.blk h.hp, h.hi.ext hx, h.hb.ext hx, h.x.trans hx⟩
theorem GrI.next {K : World → Prop} (hK : ∀ A C, K A → Ext A C → K C) {p : Option Addr} {c f : Nat} {W F R H : Int} {L : List Wp.Bx} {i pb ib bb : Nat} {w w0 : World} (hpar : IsPar L) (hi : i < L.length) (hW : InK W) (hF : InK F) (hR : InK R) (hK2 : ∀ A v, K A → K (A.setCell ⟨bb, 0, none⟩ v)) (hb : w.heap.size ≤ bb) (hr0 : BxRow w (.slice p L.length c) (L.map bxI)) (hbp : bb ≠ pb) (hbi : bb ≠ ib) (hb0 : bb < w0.heap.size) (j : Nat) (V : World) (hij : i ≤ j) (hj : j < L.length) (h : GrI K p c f W F R H L i pb ib bb w j V) :
    Calls Tryz.prog 41 (#[.int .i64 (j : Nat), .int .i64 (szP L i j : Nat)] ++ #[.pointer (some ⟨pb, 0, none⟩), .pointer (some ⟨ib, 0, none⟩), .pointer (some ⟨bb, 0, none⟩)]) V fun e V' => ∃ b, e = .returned (.bool b) ∧ Up w0.heap.size V V' ∧ (b = true → GrI K p c f W F R H L i pb ib bb w (j + 1) V') ∧ (b = false → False) := by
  refine (c_greedy1 p L.length c f W F R H i j (szP L i j) _ pb ib bb V hW hF hR h.hp h.hi h.hb).mono ?_
  rintro e V' ⟨rfl, V1, hx1, hV⟩
  have h1 := h.ext hK hx1
  have hfit := hpar.fit ⟨W, F, R⟩ hi hj
  simp only at hfit
  generalize (if i = 0 then W - F else W - R) = rm at hV hfit
  refine ⟨true, rfl, ?_, fun _ => ?_, fun q => by cases q⟩
  · rw [hV]
    split
    · refine (Up.of_ext hx1).trans ⟨(grown_cell V1 bb 0 (.int .i64 (j : Nat))).size, fun k hk hl => (grown_cell V1 bb 0 (.int .i64 (j : Nat))).block k hl (fun e => by have := Option.some.inj e; omega)⟩
    · exact Up.of_ext hx1
  · rw [hV]
    split
    · rename_i hs
      have hb1 := h1.hb.set (.int .i64 (j : Nat))
      have hx2 : Ext w (V1.setCell ⟨bb, 0, none⟩ (.int .i64 (j : Nat))) := Ext.setCell h1.x hb _
      refine ⟨hK2 _ _ h1.k, hr0.ext hx2, ((grown_cell V1 bb 0 (.int .i64 (j : Nat))).block pb (blk_lt h1.hp) (fun e => hbp (Option.some.inj e).symm)).trans h1.hp, h1.hi.other (Ne.symm hbi) _, ?_, hx2⟩
      rw [bestUp_succ _ _ hij, if_pos (by rw [hfit, decide_eq_true hs, Bool.or_true])]
      exact hb1
    · rename_i hs
      refine ⟨h1.k, h1.row, h1.hp, h1.hi, ?_, h1.x⟩
      rw [bestUp_succ _ _ hij]
      by_cases he : i = j
      · subst he
        have := h1.hb
        rw [bestUp_self] at this ⊢
        split <;> exact this
      · have hf0 : Wp.fit ⟨W, F, R⟩ L i j = false := by
          rw [hfit, decide_eq_false hs]
          simp [he]
        rw [hf0]
        exact h1.hb
set_option maxRecDepth 100000 in
set_option maxHeartbeats 4000000 in
theorem c_greedy (p : Option Addr) (c : Nat) (f : Nat) (W F R H : Int) (L : List Wp.Bx) (w : World) (hrow : BxRow w (.slice p L.length c) (L.map bxI)) (hsm : SmB L) (hpar : IsPar L) (hW : InK W) (hF : InK F) (hR : InK R) (hf : f ≤ 4096) :
    Calls Tryz.prog 27 #[pgV p L.length c f W F R H] w fun e w' => ∃ v, e = .returned v ∧ w'.ownsRow w.heap.size 3 1 v (Wp.greedy ⟨W, F, R⟩ L L.length 0).length (nW ((Wp.greedy ⟨W, F, R⟩ L L.length 0).map (f + ·))) ∧ Ext w w' := by
  have HROW := Lib.hid hrow
  have HSM := Lib.hid hsm
  have HPAR := Lib.hid hpar
  have HK := Lib.hid (And.intro hW (And.intro hF hR))
  have hnb := hsm.1
  have hnI : ((L.length : Nat) : Int) ≤ 4096 := by omega
  have hfI : ((f : Nat) : Int) ≤ 4096 := by omega
  clear hrow hsm hpar hW hF hR
  obtain ⟨G, hG⟩ : ∃ G, Wp.greedy ⟨W, F, R⟩ L L.length 0 = G := ⟨_, rfl⟩
  rw [hG]
  have HG := Lib.hid hG
  clear hG
  unfold pgV
  go_enter Tryz.func27, Tryz.ntmps27
  go_wp2_with fail
  have bP := Boxed.new w 3 (.int .i64 0)
  clear bP
  have hp0 := (Below.heap_alloc (w.alloc (.cells #[.slice p L.length c, .int .i64 (f : Nat), .int .i64 W, .int .i64 F, .int .i64 R, .int .i64 H] 61)) (.cells #[.int .i64 0] 3) w.heap.size (by simp)).trans (World.alloc_heap_new w (.cells #[.slice p L.length c, .int .i64 (f : Nat), .int .i64 W, .int .i64 F, .int .i64 R, .int .i64 H] 61))
  have hi0 := Boxed.new (w.alloc (.cells #[.slice p L.length c, .int .i64 (f : Nat), .int .i64 W, .int .i64 F, .int .i64 R, .int .i64 H] 61)) 3 (.int .i64 0)
  rw [World.size_alloc] at hi0
  have hx0 := ((Ext.refl w).alloc (.cells #[.slice p L.length c, .int .i64 (f : Nat), .int .i64 W, .int .i64 F, .int .i64 R, .int .i64 H] 61)).alloc (.cells #[.int .i64 0] 3)
  generalize (w.alloc (.cells #[.slice p L.length c, .int .i64 (f : Nat), .int .i64 W, .int .i64 F, .int .i64 R, .int .i64 H] 61)).alloc (.cells #[.int .i64 0] 3) = w1 at hp0 hi0 hx0 ⊢
  obtain ⟨B, hB⟩ : ∃ B, w.heap.size = B := ⟨_, rfl⟩
  rw [hB] at hp0 hi0 ⊢
  have HB := Lib.hid hB
  have HP0 := Lib.hid hp0
  have HI0 := Lib.hid hi0
  have HX0 := Lib.hid hx0
  clear hp0 hi0 hx0 hB
  go_loopw [3, 4, 5] (fun ov iv _ V => ∃ (i ib : Nat) (O : List Nat), iv = .pointer (some ⟨ib, 0, none⟩) ∧ i ≤ L.length ∧ O.length ≤ i ∧ Hid (Boxed V ib 3 (.int .i64 (i : Nat)) ∧ B < ib) ∧ Hid (V.ownsRow (B + 1) 3 1 ov O.length (nW (O.map (f + ·))) ∧ ∀ g, ov.ownBlock = some g → g < ib) ∧ Hid (O ++ Wp.greedy ⟨W, F, R⟩ L L.length i = G) ∧ Hid (V.heap[B]? = some (.cells #[.slice p L.length c, .int .i64 (f : Nat), .int .i64 W, .int .i64 F, .int .i64 R, .int .i64 H] 61 (0, 0)) ∧ Ext w V)) (fun _ iv _ V => L.length + 1 - boxNat iv V)
  case atStart => exact ⟨0, B + 1, [], rfl, Nat.zero_le _, Nat.zero_le _, Lib.hid ⟨HI0.out, Nat.lt_succ_self B⟩, Lib.hid ⟨World.ownsRow_nil _ _ _ _, fun g e => by cases e⟩, HG, Lib.hid ⟨HP0.out, HX0.out⟩⟩
  case round =>
    obtain ⟨i, ib, O, rfl, hi, hO, HIB, HOW, HGO, HPX⟩ := hrel
    obtain ⟨V, rfl⟩ : ∃ V, V = wr := ⟨_, rfl⟩
    have i0 := HIB.out.1.cell
    have HMS := Lib.hid i0
    have k0 := (cell_blk HPX.out.1 0).trans rfl
    have k1 := (cell_blk HPX.out.1 1).trans rfl
    have k2 := (cell_blk HPX.out.1 2).trans rfl
    have k3 := (cell_blk HPX.out.1 3).trans rfl
    have k4 := (cell_blk HPX.out.1 4).trans rfl
    have k5 := (cell_blk HPX.out.1 5).trans rfl
    obtain ⟨po, co, rfl⟩ := own_slice HOW.out.1
    by_cases hil : i < L.length
    · have hI : ((i : Nat) : Int) < (L.length : Nat) := by omega
      have hd : decide (i < L.length) = true := decide_eq_true hil
      have v0 : ∀ o, (V.alloc o).cell? ⟨B, 0, none⟩ = _ := fun o => ((Ext.refl V).alloc o).cell k0
      have v1 : ∀ o, (V.alloc o).cell? ⟨B, 1, none⟩ = _ := fun o => ((Ext.refl V).alloc o).cell k1
      have v2 : ∀ o, (V.alloc o).cell? ⟨B, 2, none⟩ = _ := fun o => ((Ext.refl V).alloc o).cell k2
      have v3 : ∀ o, (V.alloc o).cell? ⟨B, 3, none⟩ = _ := fun o => ((Ext.refl V).alloc o).cell k3
      have v4 : ∀ o, (V.alloc o).cell? ⟨B, 4, none⟩ = _ := fun o => ((Ext.refl V).alloc o).cell k4
      have v5 : ∀ o, (V.alloc o).cell? ⟨B, 5, none⟩ = _ := fun o => ((Ext.refl V).alloc o).cell k5
      have v6 : ∀ o, (V.alloc o).cell? ⟨ib, 0, none⟩ = _ := fun o => ((Ext.refl V).alloc o).cell i0
      go_wp2_with fail
      clear v0 v1 v2 v3 v4 v5 v6 k0 k1 k2 k3 k4 k5 i0
      have hbb := Boxed.new V 3 (.int .i64 (i : Nat))
      have hx2 := (Ext.refl V).alloc (.cells #[.int .i64 (i : Nat)] 3)
      generalize V.alloc (.cells #[.int .i64 (i : Nat)] 3) = V2 at hbb hx2 ⊢
      have hibl := HIB.out.1.lt
      generalize hbbn : V.heap.size = bb at hbb hibl ⊢
      have HBI := Lib.hid (And.intro HIB.out.2 hibl)
      have hwB : w.heap.size = B := HB.out
      have hBib : B < ib := HIB.out.2
      have hown2 := ownsRow_ext HOW.out.1 hx2
      have hong : ∀ g, (Value.slice po O.length co).ownBlock = some g → g < ib := HOW.out.2
      refine (c_sizes 41 #[.pointer (some ⟨B, 0, none⟩), .pointer (some ⟨ib, 0, none⟩), .pointer (some ⟨bb, 0, none⟩)] L p c f W F R H i V2
        (GrI (fun V => V.ownsRow (B + 1) 3 1 (.slice po O.length co) O.length (nW (O.map (f + ·)))) p c f W F R H L i B ib bb w) (fun _ => False) (enters_of Tryz.func41 (by kernel_rfl) rfl)
        (fun j W' h => h.row) (fun j A B h hx => h.ext (fun _ _ h hx => ownsRow_ext h hx) hx) HSM.out (Nat.le_of_lt hil)
        (fun j W' h1 h2 h3 _ => GrI.next (w0 := V2) (fun _ _ h hx => ownsRow_ext h hx) HPAR.out hil HK.out.1 HK.out.2.1 HK.out.2.2 (fun A v h => h.kept (grown_cell _ _ _ _) (.inr fun e => by have := hong bb e; omega)) (by omega) HROW.out (by omega) (by omega) (blk_lt hbb) j W' h1 h2 h3)
        ⟨hown2, HROW.out.ext (HPX.out.2.trans hx2), hx2.blk HPX.out.1, HIB.out.1.ext hx2, by rw [bestUp_self]; exact hbb, HPX.out.2.trans hx2⟩).mono ?_
      rintro e V3 ⟨⟨v, rfl⟩, hG3⟩
      have hG3 := hG3.resolve_right id
      have hb3 := hG3.hb
      rw [bestUp_end HPAR.out ⟨W, F, R⟩ hil] at hb3
      have HBS := Lib.hid (Wp.bestG_spec ⟨W, F, R⟩ L i)
      have HBL := Lib.hid (HPAR.out.lst hil)
      have HGS := Lib.hid (show Wp.greedy ⟨W, F, R⟩ L L.length i = Wp.bestG ⟨W, F, R⟩ L i :: Wp.greedy ⟨W, F, R⟩ L L.length (Wp.bestG ⟨W, F, R⟩ L i + 1) by
        have := (Wp.bestG_spec ⟨W, F, R⟩ L i).2.1
        rw [Wp.greedy_fuel ⟨W, F, R⟩ L L.length (L.length + 1) i (by omega) (by omega), Wp.greedy, if_pos hil])
      generalize Wp.bestG ⟨W, F, R⟩ L i = bg at hb3 HBS HGS
      have hbg : i ≤ bg ∧ bg < L.length := by have h1 := HBS.out.2.1; have h2 := HBS.out.2.2.1; have h3 := HBL.out; omega
      have hbgI : ((bg : Nat) : Int) ≤ 4096 := by omega
      have HG3 := Lib.hid hG3
      have HB3 := Lib.hid hb3
      have e1 := (cell_blk hG3.hp 1).trans rfl
      have e2 := hb3.cell
      have e3 := hG3.hi.cell
      have e4 := hG3.hi.frozen
      clear hG3 hx2 hbb hown2 hong hb3
      go_wp2_with (at_builtin; refine Hid.out ?_)
      refine wpList_appA rfl (.tmp 16) (.tmp 21) rfl rfl HG3.out.k (by have := blk_lt HG3.out.hp; omega) _ _ rfl rfl (by omega) ?_
      intro v' w8 hown8 hgr8 hat8
      obtain ⟨p', c', rfl⟩ := own_slice hown8
      have hong : ∀ g, (Value.slice po O.length co).ownBlock = some g → B + 1 ≤ g ∧ g < ib := fun g e => ⟨(HOW.out.1.lt _ e).1, HOW.out.2 g e⟩
      have hsz3 : ib < V3.heap.size := HG3.out.hi.lt
      have b8 := HB3.out.kept hgr8 (fun e => by have := hong bb e.symm; omega)
      have i8 := HG3.out.hi.kept hgr8 (fun e => by have := hong ib e.symm; omega)
      have p8 : w8.heap[B]? = _ := (hgr8.block B (blk_lt HG3.out.hp) (fun e => by have := hong B e.symm; omega)).trans HG3.out.hp
      have x8 : Ext w w8 := Below.grown HG3.out.x hgr8 HG3.out.x.sz (fun k e => by have := hong k e; omega)
      have hne8 : ∀ g, (Value.slice p' (O.length + 1) c').ownBlock = some g → g ≠ ib := fun g e => by
        rcases hat8 with h | ⟨g', h, hl⟩
        · rw [h] at e
          have := hong g e
          omega
        · rw [h] at e
          have := Option.some.inj e
          omega
      have q1 := b8.cell
      have q2 := i8.cell
      have q3 := i8.frozen
      have H8 := Lib.hid (And.intro hown8 (And.intro hne8 (And.intro p8 (And.intro x8 i8))))
      clear hown8 hgr8 hat8 b8 i8 p8 x8 hne8 hong e1 e2 e3 e4
      go_wp2_with fail
      obtain ⟨hown8, hne8, p8, x8, i8⟩ := H8.out
      have hgs := grown_cell w8 ib 0 (.int .i64 ((bg : Nat) + 1))
      have hi9 := i8.set (.int .i64 ((bg : Nat) + 1))
      have hown9 : (w8.setCell ⟨ib, 0, none⟩ (.int .i64 ((bg : Nat) + 1))).ownsRow (B + 1) 3 1 (.slice p' (O.length + 1) c') (O.length + 1) _ := hown8.kept hgs (.inr fun e => hne8 ib e rfl)
      have p9 := (hgs.block B (blk_lt p8) (fun e => by have := Option.some.inj e; omega)).trans p8
      have x9 : Ext w (w8.setCell ⟨ib, 0, none⟩ (.int .i64 ((bg : Nat) + 1))) := Ext.setCell x8 (show w.heap.size ≤ ib by omega) _
      have hsz9 : (w8.setCell ⟨ib, 0, none⟩ (.int .i64 ((bg : Nat) + 1))).heap.size = w8.heap.size := by simp
      have hb9 := Boxed.new (w8.setCell ⟨ib, 0, none⟩ (.int .i64 ((bg : Nat) + 1))) 3 (.int .i64 ((bg : Nat) + 1))
      rw [hsz9] at hb9
      refine ⟨⟨bg + 1, _, O ++ [bg], rfl, by omega, by rw [List.length_append]; simp; omega, Lib.hid ⟨hb9, blk_lt p8⟩, Lib.hid ⟨?_, fun g e => (hown8.lt _ e).2⟩, Lib.hid ?_, Lib.hid ⟨((Ext.refl _).alloc _).blk p9, x9.alloc _⟩⟩, ?_⟩
      · rw [List.map_append, nW_app, List.length_append]
        exact ownsRow_ext hown9 ((Ext.refl _).alloc _)
      · rw [List.append_assoc, ← HGO.out, HGS.out]
        rfl
      · have e9 : boxNat (.pointer (some ⟨w8.heap.size, 0, none⟩)) ((w8.setCell ⟨ib, 0, none⟩ (.int .i64 ((bg : Nat) + 1))).alloc (.cells #[.int .i64 ((bg : Nat) + 1)] 3)) = bg + 1 := boxNat_eq (n := bg + 1) hb9
        have e10 : boxNat (.pointer (some ⟨ib, 0, none⟩)) V = i := boxNat_eq HIB.out.1
        rw [e10, e9]
        omega
    · have hI : ¬ ((i : Nat) : Int) < (L.length : Nat) := by omega
      have hd : decide (i < L.length) = false := decide_eq_false hil
      have HGE := Lib.hid (show O = G by
        rw [← HGO.out, Wp.greedy_fuel ⟨W, F, R⟩ L L.length 0 i (by omega) (by omega)]
        exact (List.append_nil O).symm)
      go_wp2_with fail
      refine ret_one rfl rfl rfl ⟨_, rfl, ?_, HPX.out.2⟩
      rw [← HGE.out, HB.out]
      exact own_lower HOW.out.1 (Nat.le_succ _)
end Go.Proofs.YtlmkbldiicbejaaGreatDoor
