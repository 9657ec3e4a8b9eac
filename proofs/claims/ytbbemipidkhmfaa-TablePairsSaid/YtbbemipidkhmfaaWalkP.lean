/-
  Load.
-/
import Derived.Test.YtbbemipidkhmfaaWalkO
namespace Go.Proofs.Ytbbemipidkhmfaa
open Go.RowKit Go.Maps Go.Shelf

theorem numGo_range : ∀ (k i : Nat) (n : Int) (bs : List Int) (bad : Bool), (∀ x ∈ bs, 0 ≤ x ∧ x ≤ 255) → 0 ≤ n → n < 128 ^ i → 0 ≤ (numGo k i n bs bad).1 ∧ (numGo k i n bs bad).1 < 128 ^ (i + k) ∧ ∀ x ∈ (numGo k i n bs bad).2.1, 0 ≤ x ∧ x ≤ 255
  | 0, i, n, bs, bad, hb, _, _ => ⟨Int.le_refl _, Int.pow_pos (by decide), hb⟩
  | k + 1, i, n, bs, bad, hb, h0, h1 => by
    have hc : 0 ≤ bs.headD 0 ∧ bs.headD 0 ≤ 255 := by cases bs with | nil => simp | cons x t => simpa using hb x (by simp)
    have ht : ∀ x ∈ bs.tail, 0 ≤ x ∧ x ≤ 255 := fun x hx => hb x (List.mem_of_mem_tail hx)
    have hp : (0 : Int) < 128 ^ i := Int.pow_pos (by decide)
    have hm : 0 ≤ bs.headD 0 % 128 ∧ bs.headD 0 % 128 ≤ 127 := by omega
    have hmul : 0 ≤ bs.headD 0 % 128 * 128 ^ i ∧ bs.headD 0 % 128 * 128 ^ i ≤ 127 * 128 ^ i := ⟨Int.mul_nonneg hm.1 (Int.le_of_lt hp), Int.mul_le_mul_of_nonneg_right hm.2 (Int.le_of_lt hp)⟩
    have hs : n + bs.headD 0 % 128 * 128 ^ i < 128 ^ (i + 1) := by rw [Int.pow_succ]; omega
    rw [numGo]
    split
    · refine ⟨by show 0 ≤ n + _; omega, ?_, ht⟩
      refine Int.lt_of_lt_of_le hs ?_
      exact_mod_cast Nat.pow_le_pow_right (show 0 < 128 by decide) (show i + 1 ≤ i + (k + 1) by omega)
    · have := numGo_range k (i + 1) _ bs.tail (bad || bs.isEmpty) ht (by omega) hs
      rw [show i + 1 + k = i + (k + 1) from by omega] at this
      exact this
theorem numR_range (bs : List Int) (bad : Bool) (h : ∀ x ∈ bs, 0 ≤ x ∧ x ≤ 255) : 0 ≤ (numR bs bad).1 ∧ (numR bs bad).1 < 268435456 ∧ ∀ x ∈ (numR bs bad).2.1, 0 ≤ x ∧ x ≤ 255 :=
  numGo_range 4 0 0 bs bad h (by decide) (by decide)
/-- The ranges that are read; none: one of them ends too late. -/
def ldGo : Nat → Int → List Rng → List Int → Bool → Option (List Rng × List Int × Bool)
  | 0, _, l, bs, bad => some (l, bs, bad)
  | k + 1, nx, l, bs, bad =>
    if bad then some (l, bs, bad) else
    let a := numR bs bad
    let b := numR a.2.1 a.2.2
    if 1114111 < nx + a.1 + b.1 then none else ldGo k (nx + a.1 + b.1 + 1) (l ++ [⟨nx + a.1, nx + a.1 + b.1, b.2.1.headD 0⟩]) b.2.1.tail (b.2.2 || b.2.1.isEmpty)
theorem ldGo_bad (k : Nat) (nx : Int) (l : List Rng) (bs : List Int) : ldGo k nx l bs true = some (l, bs, true) := by cases k <;> simp [ldGo]
/-- What bytes tell: ranges, the rest's class. -/
def loadOf (b : List Int) : Option (List Rng × Int) :=
  match ldGo (numR b.tail b.isEmpty).1.toNat 0 [] (numR b.tail b.isEmpty).2.1 (numR b.tail b.isEmpty).2.2 with
  | none => none
  | some (l, bs, bad) => if bad || !bs.isEmpty then none else some (l, b.headD 0)
/-- A table in memory. -/
def IsTb (W : World) (v : Value) (rest : Int) (f : Int → Int) : Prop := ∃ T U ix ob oc ub uc, v = .pointer (some ⟨T, 0, none⟩) ∧ Tab W T rest f U ix ob oc ub uc
theorem IsTb.ext {W W' : World} {v : Value} {rest : Int} {f : Int → Int} (h : IsTb W v rest f) (hx : Ext W W') : IsTb W' v rest f := by
  obtain ⟨T, U, ix, ob, oc, ub, uc, e, ht⟩ := h
  exact ⟨T, U, ix, ob, oc, ub, uc, e, ht.ext hx⟩
/-- A table's memory lies at n and beyond. -/
def FreshT (n : Nat) (W : World) (v : Value) : Prop := ∃ T r ob on oc ub un uc, v = .pointer (some ⟨T, 0, none⟩) ∧ W.heap[T]? = some (.cells #[r, .slice (some ⟨ob, 0, none⟩) on oc, .slice (some ⟨ub, 0, none⟩) un uc] 80) ∧ n ≤ T ∧ n ≤ ob ∧ n ≤ ub
theorem FreshT.ext {n : Nat} {W W' : World} {v : Value} (h : FreshT n W v) (hx : Ext W W') : FreshT n W' v := by
  obtain ⟨T, r, ob, on, oc, ub, un, uc, e, hb, h3⟩ := h
  exact ⟨T, r, ob, on, oc, ub, un, uc, e, hx.blk hb, h3⟩
theorem FreshT.le {n m : Nat} {W : World} {v : Value} (h : FreshT n W v) (hm : m ≤ n) : FreshT m W v := by
  obtain ⟨T, r, ob, on, oc, ub, un, uc, e, hb, h1, h2, h3⟩ := h
  exact ⟨T, r, ob, on, oc, ub, un, uc, e, hb, by omega, by omega, by omega⟩
theorem FreshT.none {n : Nat} {W : World} (h : FreshT n W (.pointer none)) : False := by
  obtain ⟨T, r, ob, on, oc, ub, un, uc, e, _⟩ := h
  cases e
theorem OfSt.fresh {W : World} {n₀ T tb mf fb ms : Nat} {rest : Int} {f : Int → Int} {U : List (List Int)} {ix : List Nat} {cs : List (Int × Nat)} {ob oc ub uc : Nat} (h : OfSt W n₀ T tb mf fb ms rest f U ix cs) (ht : Tab W T rest f U ix ob oc ub uc) : FreshT n₀ W (.pointer (some ⟨T, 0, none⟩)) := by
  obtain ⟨ofV, ha, hro⟩ := h.add
  obtain ⟨unV, hT, hru⟩ := ha.un
  have e := hT.symm.trans ht.hT
  simp only [Option.some.injEq, Obj.cells.injEq, Array.mk.injEq, List.cons.injEq, and_true, true_and] at e
  obtain ⟨e1, e2⟩ := e
  subst e1 e2
  exact ⟨T, _, ob, _, oc, ub, _, uc, rfl, hT, ha.n0.1, (hro.lt ob rfl).1, (hru.lt ub rfl).1⟩
/-- The numbers that are told, of what a call finds. -/
def rdOK (w : World) (W : World) (RB : Nat) (bs : List Int) (bad : Bool) : Prop := RdSt w W RB bs bad
theorem RdSt.bytes {w0 W : World} {RB : Nat} {bs : List Int} {bad : Bool} (h : RdSt w0 W RB bs bad) : ∀ x ∈ bs, 0 ≤ x ∧ x ≤ 255 := by
  obtain ⟨_, _, _, _, _, _, _, _, hb, _⟩ := h
  exact hb
theorem RdSt.rowKept {w0 W W' : World} {RB : Nat} {bs : List Int} {bad : Bool} (h : RdSt w0 W RB bs bad) {n₀ n : Nat} {v : Value} {xs : List Value} (hr : W.ownsRow n₀ 32 3 v n xs) (hg : W.grownBy W' (some RB)) : W'.ownsRow n₀ 32 3 v n xs := by
  obtain ⟨_, _, _, hb, _⟩ := h
  exact hr.kept hg (.inr fun e => row_ne hr hb (by decide) e.symm)
theorem RdSt.ext {w0 W W' : World} {RB : Nat} {bs : List Int} {bad : Bool} (h : RdSt w0 W RB bs bad) (hx : Ext W W') : RdSt w0 W' RB bs bad := by
  obtain ⟨h1, h2, v, hb, h3⟩ := h
  exact ⟨h1, Ext.trans h2 hx, v, hx.blk hb, h3⟩
theorem RdSt.ofRow {w0 W W' : World} {RB : Nat} {bs : List Int} {bad : Bool} (h : RdSt w0 W RB bs bad) {n₀ n : Nat} {v : Value} {xs : List Value} (hr : W.ownsRow n₀ 32 3 v n xs) (hn : w0.heap.size ≤ n₀) (hg : W.grownBy W' v.ownBlock) : RdSt w0 W' RB bs bad := by
  obtain ⟨h1, h2, u, hb, h3⟩ := h
  exact ⟨h1, Below.grown h2 hg h2.sz (fun k e => Nat.le_trans hn (hr.lt k e).1), u, (hg.block _ (blk_lt hb) (row_ne hr hb (by decide))).trans hb, h3⟩
theorem Rise.snoc {l : List Rng} {y : Rng} (h : Rise l) (hy : ∀ x ∈ l, x.hi < y.lo) (ho : Ok1 y) : Rise (l ++ [y]) := by
  induction l with
  | nil => exact ⟨ho, by simp, trivial⟩
  | cons x t ih =>
    refine ⟨h.1, fun z hz => ?_, ih h.2.2 fun x hx => hy x (by simp [hx])⟩
    rcases List.mem_append.1 hz with hz | hz
    · exact h.2.1 z hz
    · simp at hz
      subst hz
      exact hy x (by simp)
def tellsB (b : List Int) (w' : World) (e : Ending) : Prop :=
  (e = .returned (.tuple #[.pointer none, .int .i64 31]) ∧ (loadOf b = none ∨ ∃ l L, loadOf b = some (l, b.headD 0) ∧ Rise l ∧ RunsFrom (clsOf l (b.headD 0)) 0 1114112 L ∧ bytesOf (b.headD 0) (L.filter (fun x => !(x.cl == b.headD 0))) ≠ b)) ∨
  ∃ T l L, e = .returned (.tuple #[T, .int .i64 0]) ∧ loadOf b = some (l, b.headD 0) ∧ Rise l ∧ RunsFrom (clsOf l (b.headD 0)) 0 1114112 L ∧ bytesOf (b.headD 0) (L.filter (fun x => !(x.cl == b.headD 0))) = b ∧ IsTb w' T (b.headD 0) (clsOf l (b.headD 0))

theorem rgB_byte : ∀ {l : List Rng} {p : Int}, Asc p l → ∀ x ∈ rgB p l, 0 ≤ x ∧ x ≤ 255
  | [], _, _ => by simp [rgB]
  | x :: t, p, h => by
    obtain ⟨h1, h2, h3, h4, h5, h6⟩ := h
    intro y hy
    simp only [rgB, List.mem_append, List.mem_cons] at hy
    rcases hy with hy | hy | rfl | hy
    · exact numB_byte _ y hy
    · exact numB_byte _ y hy
    · exact ⟨h4, h5⟩
    · exact rgB_byte h6 y hy
theorem bytesOf_byte {rest : Int} (h : 0 ≤ rest ∧ rest ≤ 255) {l : List Rng} {p : Int} (ha : Asc p l) (hp : p = 0 := by rfl) : ∀ x ∈ bytesOf rest l, 0 ≤ x ∧ x ≤ 255 := by
  subst hp
  intro x hx
  simp only [bytesOf, List.mem_append, List.mem_cons] at hx
  rcases hx with rfl | hx | hx
  · exact h
  · exact numB_byte _ x hx
  · exact rgB_byte ha x hx
theorem bytesOf_length {rest : Int} {l : List Rng} (ha : Asc 0 l) (hl : l.length ≤ 1114112) : (bytesOf rest l).length ≤ 100000000 := by
  have := rgB_length (by omega) ha
  have := numB_length 2 l.length (by omega)
  simp only [bytesOf, List.length_cons, List.length_append]
  omega
set_option maxRecDepth 100000 in
set_option maxHeartbeats 4000000 in
theorem c_Load (v : Value) (b : List Int) (w : World) (h : ByRow w v b) (hn : b.length ≤ 100000000) :
    Calls Try.prog 24 #[v] w fun e w' => Ext w w' ∧ tellsB b w' e ∧ ∀ T, e = .returned (.tuple #[T, .int .i64 0]) → FreshT w.heap.size w' T := by
  obtain ⟨i0, hi, hz0, hz1, hz2⟩ := info_parts info32p
  have hb0 : ∀ x ∈ b, 0 ≤ x ∧ x ≤ 255 := by obtain ⟨_, _, _, _, hb, _⟩ := h; exact hb
  have hr0 : 0 ≤ b.headD 0 ∧ b.headD 0 ≤ 255 := by cases b with | nil => simp | cons x t => simpa using hb0 x (by simp)
  obtain ⟨hn0, hn1, hn2⟩ := numR_range b.tail b.isEmpty (fun x hx => hb0 x (List.mem_of_mem_tail hx))
  obtain ⟨cn, hcn⟩ : ∃ cn : Nat, (numR b.tail b.isEmpty).1 = (cn : Nat) := ⟨(numR b.tail b.isEmpty).1.toNat, by omega⟩
  obtain ⟨rest, hrest⟩ : ∃ rest, b.headD 0 = rest := ⟨_, rfl⟩
  obtain ⟨p0, cap0, rfl⟩ : ∃ p cap, v = .slice p b.length cap := by obtain ⟨p, cap, e, _⟩ := h; exact ⟨p, cap, e⟩
  rw [hrest] at hr0
  have HCN := Lib.hid hcn
  have HR := Lib.hid hrest
  have HT := Lib.hid hn2
  rw [hcn] at hn0 hn1
  have hst0 : RdSt w (w.alloc (.cells #[.slice p0 b.length cap0, .bool false] 93)) w.heap.size b false := ⟨Nat.le_refl _, (Ext.refl w).alloc _, _, World.alloc_heap_new w _, h⟩
  clear hn2 hcn hrest hb0
  go_enter Try.func24, Try.ntmps24
  go_wp2_with fail
  refine (c_byte w _ _ b false hst0).mono ?_
  rintro e w1 ⟨rfl, hst1, hg1⟩
  rw [HR.out]
  rw [Bool.false_or] at hst1
  go_wp2_with fail
  refine (c_rnum w w1 _ b.tail b.isEmpty hst1).mono ?_
  rintro e w2 ⟨rfl, hst2, hg2⟩
  rw [HCN.out]
  go_wp2_with fail
  rename_i K HK
  have hx2 : Ext w w2 := hst2.2.1
  have tail : ∀ (u2 u3 u8 u9 u10 u20 u21 u22 u23 u24 u25 u26 u27 u28 u29 u30 u31 u32 u33 u34 u35 u36 u37 u38 u39 u40 u41 u42 u43 u44 u45 u46 u47 u48 lv : Value) (l : List Rng) (bs : List Int) (bad : Bool) (W : World), W.ownsRow w.heap.size 32 3 lv l.length (rgCells l) → RdSt w W w.heap.size bs bad → Hid (ldGo cn 0 [] (numR b.tail b.isEmpty).2.1 (numR b.tail b.isEmpty).2.2 = some (l, bs, bad)) → Rise l → Hid (l.length ≤ 1114112) →
      K { tmps := #[.slice p0 b.length cap0, undef, u2, u3, .pointer (some ⟨w.heap.size, 0, none⟩), .int .i64 rest, .int .i64 (cn : Nat), lv, u8, u9, u10, undef, .slice p0 b.length cap0, .agg #[.slice p0 b.length cap0, .bool false], .pointer (some ⟨w.heap.size, 0, none⟩), .pointer (some ⟨w.heap.size, 0, none⟩), .int .i64 rest, .pointer (some ⟨w.heap.size, 0, none⟩), .int .i64 (cn : Nat), .int .i64 (cn : Nat), u20, u21, u22, u23, u24, u25, u26, u27, u28, u29, u30, u31, u32, u33, u34, u35, u36, u37, u38, u39, u40, u41, u42, u43, u44, u45, u46, u47, u48, undef, undef, undef, undef, undef, undef, undef, undef, undef, undef, undef, undef, undef, undef, undef, undef, undef, undef, undef, undef, undef], defers := [] } W := by
    intro u2 u3 u8 u9 u10 u20 u21 u22 u23 u24 u25 u26 u27 u28 u29 u30 u31 u32 u33 u34 u35 u36 u37 u38 u39 u40 u41 u42 u43 u44 u45 u46 u47 u48 lv l bs bad W hrow hst hld hri hlen
    refine HK _ _ ?_
    have hxW : Ext w W := hst.2.1
    obtain ⟨q0, q1, v1, q2, q3⟩ := id hst
    have k0 := cell_blk q2 0
    have k1 := cell_blk q2 1
    simp only [List.getElem?_toArray, List.getElem?_cons_succ, List.getElem?_cons_zero] at k0 k1
    clear q2
    have hlo : (bad || !bs.isEmpty) = true → loadOf b = none := fun e => by
      rw [loadOf, HCN.out, Int.toNat_natCast, hld.out]
      simp only [e, if_true]
    rcases Bool.eq_false_or_eq_true bad with rfl | rfl
    · have hL := Lib.hid (hlo (by simp))
      clear hlo
      go_wp2_with fail
      exact bodyPost_ret (by simp [results, Try.results24, go_sem]) rfl ⟨hxW, .inl ⟨rfl, .inl hL.out⟩, fun T e => by simp at e⟩
    · obtain ⟨p1, cap1, rfl⟩ : ∃ p cap, v1 = .slice p bs.length cap := by obtain ⟨p, cap, e, _⟩ := q3; exact ⟨p, cap, e⟩
      cases bs with
      | cons x t =>
        have hL := Lib.hid (hlo (by simp))
        have hgt : decide (0 < ((t.length : Nat) : Int) + 1) = true := decide_eq_true (by omega)
        clear hlo
        go_wp2_with fail
        exact bodyPost_ret (by simp [results, Try.results24, go_sem]) rfl ⟨hxW, .inl ⟨rfl, .inl hL.out⟩, fun T e => by simp at e⟩
      | nil =>
        clear hlo
        have hsome : Hid (loadOf b = some (l, rest)) := Lib.hid (by
          rw [loadOf, HCN.out, Int.toNat_natCast, hld.out, HR.out]
          rfl)
        go_wp2_with fail
        refine (c_of lv l rest W (RgRow.of_own hrow) hri hr0.1 hr0.2).mono ?_
        rintro e w5 ⟨T, rfl, ⟨tb, mf, fb, ms, U, ix, cs, hixl, hof⟩, hx5⟩
        obtain ⟨ob, oc, ub, uc, htab⟩ := hof.tab hixl hr0
        have hfr := (hof.fresh htab).le (m := w.heap.size) hxW.sz
        clear hof
        go_wp2_with fail
        refine (c_Bytes w5 htab).mono ?_
        rintro e w6 ⟨bv, L, rfl, hrn, hob, hx6⟩
        have hx05 : Ext w w5 := Ext.trans hxW hx5
        have hx06 : Ext w w6 := Ext.trans hx05 hx6
        have htab6 := htab.ext hx6
        have hby : ∀ x ∈ bytesOf rest (L.filter (fun x => !(x.cl == rest))), 0 ≤ x ∧ x ≤ 255 := bytesOf_byte hr0 (hrn.asc _ htab.cls (by omega))
        have hbl := bytesOf_length (rest := rest) (hrn.asc (fun x => !(x.cl == rest)) htab.cls (by omega)) (by have := hrn.le; have := List.length_filter_le (fun x => !(x.cl == rest)) L; omega)
        have hr1 := ByRow.of_own hob hby
        obtain ⟨Y, hY⟩ : ∃ Y, bytesOf rest (L.filter (fun x => !(x.cl == rest))) = Y := ⟨_, rfl⟩
        rw [hY] at hr1 hbl
        have HY := Lib.hid hY
        clear hby hob hY
        obtain ⟨bb, hbb⟩ : ∃ bb, decide (Y = b) = bb := ⟨_, rfl⟩
        have hbb2 : bb = true ↔ Y = b := by rw [← hbb]; simp
        have HBB := Lib.hid hbb2
        clear hbb hbb2
        go_wp2_with fail
        refine (c_bEqual bv (.slice p0 b.length cap0) Y b bb w6 hr1 (h.mono hx06) HBB.out hbl).mono ?_
        rintro e w7 ⟨rfl, hx7⟩
        have hx07 : Ext w w7 := Ext.trans hx06 hx7
        have htab7 := htab6.ext hx7
        have hfr7 := (hfr.ext hx6).ext hx7
        rcases Bool.eq_false_or_eq_true bb with rfl | rfl
        · go_wp2_with fail
          refine bodyPost_ret (v := .tuple #[.pointer (some ⟨T, 0, none⟩), .int .i64 0]) (by simp [results, Try.results24, go_sem]) rfl ⟨hx07, .inr ⟨.pointer (some ⟨T, 0, none⟩), l, L, rfl, ?_⟩, fun T' e => ?_⟩
          · rw [HR.out]
            exact ⟨hsome.out, hri, hrn, HY.out.trans (HBB.out.1 (by simp)), T, U, ix, ob, oc, ub, uc, rfl, htab7⟩
          · cases e
            exact hfr7
        · go_wp2_with fail
          refine bodyPost_ret (by simp [results, Try.results24, go_sem]) rfl ⟨hx07, .inl ⟨rfl, .inr ⟨l, L, ?_⟩⟩, fun T e => by simp at e⟩
          rw [HR.out]
          exact ⟨hsome.out, hri, hrn, fun e => by have := HBB.out.2 (HY.out.symm.trans e); cases this⟩
  go_loopw [7, 8, 20] (fun lv nv k W => ∃ (i nx : Nat) (l : List Rng) (bs : List Int) (bad : Bool), k = .int .i64 (i : Nat) ∧ nv = .int .i64 (nx : Nat) ∧ i ≤ cn ∧ nx ≤ 1114112 ∧ l.length ≤ nx ∧ Hid (ldGo (cn - i) nx l bs bad = ldGo cn 0 [] (numR b.tail b.isEmpty).2.1 (numR b.tail b.isEmpty).2.2) ∧ Hid (Rise l ∧ ∀ x ∈ l, x.hi < (nx : Int)) ∧ W.ownsRow w.heap.size 32 3 lv l.length (rgCells l) ∧ RdSt w W w.heap.size bs bad) (fun _ _ k _ => cn + 1 - (intOf k).toNat)
  case atStart => exact ⟨0, 0, [], _, _, rfl, rfl, by omega, by omega, by simp, Lib.hid rfl, Lib.hid ⟨trivial, by simp⟩, World.ownsRow_nil _ _ _ _, hst2⟩
  case round =>
    obtain ⟨i, nx, l, bs, bad, rfl, rfl, hicn, hnx, hll, hld, hri, hrow, hst⟩ := hrel
    by_cases hlt : i < cn
    · have hd : decide (i < cn) = true := decide_eq_true hlt
      have hdI : ((i : Nat) : Int) < (cn : Nat) := by omega
      obtain ⟨q0, q1, v1, q2, q3⟩ := id hst
      have k1 := cell_blk q2 1
      simp only [List.getElem?_toArray, List.getElem?_cons_succ, List.getElem?_cons_zero] at k1
      clear q2
      rcases Bool.eq_false_or_eq_true bad with rfl | rfl
      · go_wp2_with fail
        exact tail _ _ _ _ _ _ _ _ _ _ _ _ _ _ _ _ _ _ _ _ _ _ _ _ _ _ _ _ _ _ _ _ _ _ _ l bs true wr hrow hst (Lib.hid (by rw [← hld.out, ldGo_bad])) hri.out.1 (Lib.hid (by omega))
      · obtain ⟨m, hm⟩ : ∃ m, cn - i = m + 1 := ⟨cn - i - 1, by omega⟩
        have HM := Lib.hid hm
        clear hm
        go_wp2_with fail
        refine (c_rnum w wr _ bs false hst).mono ?_
        rintro e w3 ⟨rfl, hst3, hg3⟩
        obtain ⟨ha0, ha1, ha2⟩ := numR_range bs false hst.bytes
        obtain ⟨⟨a, bs1, bad1⟩, hA⟩ : ∃ q, numR bs false = q := ⟨_, rfl⟩
        rw [hA] at hst3 ha0 ha1 ha2 ⊢
        have HA := Lib.hid hA
        clear hA
        obtain ⟨a1, rfl⟩ : ∃ a1 : Nat, a = (a1 : Nat) := ⟨a.toNat, by simp at ha0; omega⟩
        simp only at hst3 ha0 ha1 ha2 ⊢
        have HT2 := Lib.hid ha2
        clear ha2
        go_wp2_with fail
        refine (c_rnum w w3 _ bs1 bad1 hst3).mono ?_
        rintro e w4 ⟨rfl, hst4, hg4⟩
        obtain ⟨hb0, hb1, -⟩ := numR_range bs1 bad1 HT2.out
        obtain ⟨⟨b1, bs2, bad2⟩, hB⟩ : ∃ q, numR bs1 bad1 = q := ⟨_, rfl⟩
        rw [hB] at hst4 hb0 hb1 ⊢
        have HB := Lib.hid hB
        clear hB
        obtain ⟨b1, rfl⟩ : ∃ b2 : Nat, b1 = (b2 : Nat) := ⟨b1.toNat, by simp at hb0; omega⟩
        simp only at hst4 hb0 hb1 ⊢
        by_cases hgt : (1114111 : Int) < (nx : Nat) + (a1 : Nat) + (b1 : Nat)
        · have hL : Hid (loadOf b = none) := Lib.hid (by
            rw [loadOf, HCN.out, Int.toNat_natCast, ← hld.out, HM.out]
            simp only [ldGo]
            rw [HA.out]
            simp only []
            rw [HB.out]
            simp only []
            rw [if_pos hgt]
            rfl)
          go_wp2_with fail
          exact bodyPost_ret (by simp [results, Try.results24, go_sem]) rfl ⟨hst4.2.1, .inl ⟨rfl, .inl hL.out⟩, fun T e => by simp at e⟩
        · have hrow4 := hst3.rowKept (hst.rowKept hrow hg3) hg4
          have hle : (nx : Int) + (a1 : Nat) + (b1 : Nat) ≤ 1114111 := by omega
          go_wp2_with fail
          refine (c_byte w w4 _ bs2 bad2 hst4).mono ?_
          rintro e w5 ⟨rfl, hst5, hg5⟩
          have hc := hst4.byte
          obtain ⟨c, hcc⟩ : ∃ c, bs2.headD 0 = c := ⟨_, rfl⟩
          rw [hcc] at hc ⊢
          have HCC := Lib.hid hcc
          have hxA : Ext w5 (w5.alloc (.cells #[.int .i32 ((nx : Int) + (a1 : Nat)), .int .i32 ((nx : Int) + (a1 : Nat) + (b1 : Nat)), .int .i64 c] 32)) := (Ext.refl w5).alloc _
          have hrowA := ownsRow_ext (hst4.rowKept hrow4 hg5) hxA
          have hstA := hst5.ext hxA
          have hnew := World.alloc_heap_new w5 (.cells #[.int .i32 ((nx : Int) + (a1 : Nat)), .int .i32 ((nx : Int) + (a1 : Nat) + (b1 : Nat)), .int .i64 c] 32)
          clear hcc
          go_wp2_with (at_builtin; refine wpList_append_own _ rfl (.tmp 38) (.tmp 46) 25 rfl w.heap.size 32 i0 (.agg #[.int .i32 0, .int .i32 0, .int .i64 0]) 3 16 Try.underlying25 hi hz0 hz1 hz2 rfl (by decide) _ l.length (rgCells l) rfl hrowA ⟨w5.heap.size, 0, none⟩ 1 1 [.int .i32 ((nx : Int) + (a1 : Nat)), .int .i32 ((nx : Int) + (a1 : Nat) + (b1 : Nat)), .int .i64 c] rfl rfl (World.news_of_block hnew) (by intro u hu; simp at hu; rcases hu with rfl | rfl | rfl <;> rfl) (by unfold maxLen; omega) (by omega) (by have := hst5.2.1.sz; simp; omega) ?_; intro v' w6 hown' hgrow _)
          go_roundw
          case rel =>
            refine ⟨i + 1, nx + a1 + b1 + 1, l ++ [⟨(nx : Int) + (a1 : Nat), (nx : Int) + (a1 : Nat) + (b1 : Nat), c⟩], bs2.tail, bad2 || bs2.isEmpty, by simp, by simp, by omega, by omega, by simp; omega, Lib.hid ?_, Lib.hid ⟨Rise.snoc hri.out.1 (fun x hx => ?_) ?_, fun x hx => ?_⟩, ?_, hstA.ofRow hrowA (Nat.le_refl _) hgrow⟩
            · rw [← hld.out, HM.out, show cn - (i + 1) = m from by have := HM.out; omega]
              conv => rhs; rw [ldGo]
              simp only [Bool.false_eq_true, if_false]
              rw [HA.out]
              simp only []
              rw [HB.out]
              simp only []
              rw [if_neg (by omega), HCC.out]
              push_cast
              rfl
            · show x.hi < (nx : Int) + (a1 : Nat)
              have := hri.out.2 x hx
              omega
            · exact ⟨by show (0 : Int) ≤ (nx : Int) + (a1 : Nat); omega, by show (nx : Int) + (a1 : Nat) ≤ (nx : Int) + (a1 : Nat) + (b1 : Nat); omega, hle, hc⟩
            · rcases List.mem_append.1 hx with hx | hx
              · have := hri.out.2 x hx
                omega
              · simp only [List.mem_cons, List.not_mem_nil, or_false] at hx
                subst hx
                show (nx : Int) + (a1 : Nat) + (b1 : Nat) < ((nx + a1 + b1 + 1 : Nat) : Int)
                omega
            · have e : rgCells (l ++ [⟨(nx : Int) + (a1 : Nat), (nx : Int) + (a1 : Nat) + (b1 : Nat), c⟩]) = rgCells l ++ [.int .i32 ((nx : Int) + (a1 : Nat)), .int .i32 ((nx : Int) + (a1 : Nat) + (b1 : Nat)), .int .i64 c] := by rw [rgCells_append]; rfl
              rw [e]
              simpa using hown'
          case measure =>
            show cn + 1 - (intOf (.int .i64 ((i : Nat) + 1 : Int))).toNat < cn + 1 - (intOf (.int .i64 ((i : Nat) : Int))).toNat
            simp [intOf]
            omega
    · have hd : decide (i < cn) = false := decide_eq_false hlt
      have hdI : ¬ (((i : Nat) : Int) < (cn : Nat)) := by omega
      go_wp2_with fail
      exact tail _ _ _ _ _ _ _ _ _ _ _ _ _ _ _ _ _ _ _ _ _ _ _ _ _ _ _ _ _ _ _ _ _ _ _ l bs bad wr hrow hst (Lib.hid (by rw [← hld.out, show cn - i = 0 from by omega]; rfl)) hri.out.1 (Lib.hid (by omega))
end Go.Proofs.Ytbbemipidkhmfaa
