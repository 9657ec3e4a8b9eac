/-
  The tables while they are made.
-/
import Derived.Test.YteokfknkcbmigaaGreatDoorConsts
import Derived.Test.YteokfknkcbmigaaGreatDoorMapR
namespace Go.Proofs.YteokfknkcbmigaaGreatDoor
open Go.RowKit Go.Rp Go.Shelf Go.Maps

/-- A block without cells. -/
def NoCell (W : World) (m : Nat) : Prop := (∀ i v, W.cell? ⟨m, i, none⟩ ≠ some v) ∧ ∀ c t z, W.heap[m]? ≠ some (.cells c t z)
theorem MapIs.nocell {W : World} {m : Nat} {kv : List (Value × Value)} (h : MapIs W m kv) : NoCell W m := by
  obtain ⟨es, clock, hb, _⟩ := h
  exact ⟨fun i v => by simp [World.cell?, hb], fun c t z => by rw [hb]; simp⟩
theorem MRng.nocell {W : World} {m r : Nat} {kv : List (Value × Value)} {I : List Nat} (h : MRng W m r kv I) : NoCell W r := by
  obtain ⟨es, clock, since, seen, c0, h1, h2, h3, hb, h5⟩ := h
  exact ⟨fun i v => by simp [World.cell?, hb], fun c t z => by rw [hb]; simp⟩
theorem row_nocell {W : World} {n : Nat} {e : TypeId} {size k : Nat} {v : Value} {xs : List Value} (h : W.ownsRow n e size v k xs) {m : Nat} (hm : NoCell W m) : v.ownBlock ≠ some m := by
  rcases h.2 with ⟨rfl, _⟩ | ⟨g, cap, cur, rfl, _, hgb, _⟩
  · simp [Value.ownBlock]
  · intro e
    obtain rfl : g = m := by simpa [Value.ownBlock] using e
    exact hm.2 _ _ _ hgb
theorem RMap.kept {n : Nat} {W W' : World} {m : Nat} {kv : List (Value × Value)} {E : List (Int × List Int)} (h : RMap n W m kv E) {q : Nat} (hq : NoCell W q) (hne : q ≠ m) (hg : W.grownBy W' (some q)) : RMap n W' m kv E :=
  ⟨h.1.kept hg (by simpa using Ne.symm hne), h.2.1, fun i h1 h2 => let ⟨v, e, hr⟩ := h.2.2 i h1 h2; ⟨v, e, hr.kept hg (.inr (row_nocell hr hq))⟩⟩
theorem RMap.ext {n : Nat} {W W' : World} {m : Nat} {kv : List (Value × Value)} {E : List (Int × List Int)} (h : RMap n W m kv E) (hx : Ext W W') : RMap n W' m kv E :=
  ⟨h.1.ext hx, h.2.1, fun i h1 h2 => let ⟨v, e, hr⟩ := h.2.2 i h1 h2; ⟨v, e, ownsRow_ext hr hx⟩⟩
theorem RMap.lower {n n' : Nat} {W : World} {m : Nat} {kv : List (Value × Value)} {E : List (Int × List Int)} (h : RMap n W m kv E) (hn : n' ≤ n) : RMap n' W m kv E :=
  ⟨h.1, h.2.1, fun i h1 h2 => let ⟨v, e, hr⟩ := h.2.2 i h1 h2; ⟨v, e, own_lower hr hn⟩⟩
/-- The tables while they are made. -/
structure LdSt (W : World) (n mA mK jB sB oB tB : Nat) (kvA kvK kvJ kvS kvO : List (Value × Value)) (EA EK : List (Int × List Int)) (os : Value) : Prop where
  t : W.heap[tB]? = some (.cells #[.map (some mA), .map (some mK), .map (some jB), os, .map (some sB)] 84 (0, 0))
  a : RMap n W mA kvA EA
  k : RMap n W mK kvK EK
  j : MapIs W jB kvJ
  s : MapIs W sB kvS
  o : MapIs W oB kvO
variable {W W' : World} {n mA mK jB sB oB tB : Nat} {kvA kvK kvJ kvS kvO : List (Value × Value)} {EA EK : List (Int × List Int)} {os : Value}
theorem LdSt.ext (h : LdSt W n mA mK jB sB oB tB kvA kvK kvJ kvS kvO EA EK os) (hx : Ext W W') : LdSt W' n mA mK jB sB oB tB kvA kvK kvJ kvS kvO EA EK os :=
  ⟨hx.blk h.t, h.a.ext hx, h.k.ext hx, h.j.ext hx, h.s.ext hx, h.o.ext hx⟩
/-- One map has turned, or a walk over one. -/
theorem LdSt.turn (h : LdSt W n mA mK jB sB oB tB kvA kvK kvJ kvS kvO EA EK os) {m : Nat} (hm : NoCell W m) (hg : W.grownBy W' (some m)) (ha : m ≠ mA) (hk : m ≠ mK) {kvJ' kvS' kvO' : List (Value × Value)} (hj : MapIs W' jB kvJ') (hs : MapIs W' sB kvS') (ho : MapIs W' oB kvO') : LdSt W' n mA mK jB sB oB tB kvA kvK kvJ' kvS' kvO' EA EK os := by
  refine ⟨(hg.block tB (blk_lt h.t) (fun e => ?_)).trans h.t, h.a.kept hm ha hg, h.k.kept hm hk hg, hj, hs, ho⟩
  have e : tB = m := by simpa using e
  subst e
  exact hm.2 _ _ _ h.t
theorem LdSt.turnJ (h : LdSt W n mA mK jB sB oB tB kvA kvK kvJ kvS kvO EA EK os) (hg : W.grownBy W' (some jB)) (hn : mA ≠ jB ∧ mK ≠ jB ∧ sB ≠ jB ∧ oB ≠ jB) {kvJ' : List (Value × Value)} (hj : MapIs W' jB kvJ') : LdSt W' n mA mK jB sB oB tB kvA kvK kvJ' kvS kvO EA EK os :=
  h.turn h.j.nocell hg (Ne.symm hn.1) (Ne.symm hn.2.1) hj (h.s.kept hg (by simpa using hn.2.2.1)) (h.o.kept hg (by simpa using hn.2.2.2))
theorem LdSt.turnS (h : LdSt W n mA mK jB sB oB tB kvA kvK kvJ kvS kvO EA EK os) (hg : W.grownBy W' (some sB)) (hn : mA ≠ sB ∧ mK ≠ sB ∧ jB ≠ sB ∧ oB ≠ sB) {kvS' : List (Value × Value)} (hs : MapIs W' sB kvS') : LdSt W' n mA mK jB sB oB tB kvA kvK kvJ kvS' kvO EA EK os :=
  h.turn h.s.nocell hg (Ne.symm hn.1) (Ne.symm hn.2.1) (h.j.kept hg (by simpa using hn.2.2.1)) hs (h.o.kept hg (by simpa using hn.2.2.2))
theorem LdSt.turnO (h : LdSt W n mA mK jB sB oB tB kvA kvK kvJ kvS kvO EA EK os) (hg : W.grownBy W' (some oB)) (hn : mA ≠ oB ∧ mK ≠ oB ∧ jB ≠ oB ∧ sB ≠ oB) {kvO' : List (Value × Value)} (ho : MapIs W' oB kvO') : LdSt W' n mA mK jB sB oB tB kvA kvK kvJ kvS kvO' EA EK os :=
  h.turn h.o.nocell hg (Ne.symm hn.1) (Ne.symm hn.2.1) (h.j.kept hg (by simpa using hn.2.2.1)) (h.s.kept hg (by simpa using hn.2.2.2)) ho
theorem LdSt.turnR (h : LdSt W n mA mK jB sB oB tB kvA kvK kvJ kvS kvO EA EK os) {r : Nat} (hm : NoCell W r) (hg : W.grownBy W' (some r)) (hn : mA ≠ r ∧ mK ≠ r ∧ jB ≠ r ∧ sB ≠ r ∧ oB ≠ r) : LdSt W' n mA mK jB sB oB tB kvA kvK kvJ kvS kvO EA EK os :=
  h.turn hm hg (Ne.symm hn.1) (Ne.symm hn.2.1) (h.j.kept hg (by simpa using hn.2.2.1)) (h.s.kept hg (by simpa using hn.2.2.2.1)) (h.o.kept hg (by simpa using hn.2.2.2.2))
/-- Two runes as a key. -/
abbrev pairV (p : Int × Int) : Value := .agg #[.int .i32 p.1, .int .i32 p.2]
theorem keyedP : Keyed Tryz.prog 89 := Keyed.of_law (deep_law_laid (m := 2) (by kernel_rfl) (by decide) (of_decide_eq_true (by kernel_rfl)) (by kernel_rfl) (by kernel_rfl))
theorem cellsPr : Tryz.prog.cellsOf 89 = 2 := by kernel_rfl
theorem cellsI32 : Tryz.prog.cellsOf 21 = 1 := by kernel_rfl
def OkP (x : Int × Int) : Prop := (-2147483648 ≤ x.1 ∧ x.1 < 2147483648) ∧ (-2147483648 ≤ x.2 ∧ x.2 < 2147483648)
theorem keyPr (x : Int × Int) (h : OkP x) : ∃ k, keyOf Tryz.prog 89 (pairV x) = some k := by
  have hkt : Tryz.prog.keyType 89 = true := by kernel_rfl
  obtain ⟨m, hm⟩ : ∃ m, Tryz.prog.types.size = m + 1 + 1 := ⟨Tryz.prog.types.size - 2, by kernel_rfl⟩
  have hu := Tryz.underlying89
  have hu3 : Tryz.prog.underlying 21 = some (.int .i32) := Tryz.underlying21
  have w1 : (Lit.int .i32 x.1).wf = true := by have := h.1; simp [Lit.wf, IntKind.min, IntKind.max, IntKind.bits, IntKind.signed]; omega
  have w2 : (Lit.int .i32 x.2).wf = true := by have := h.2; simp [Lit.wf, IntKind.min, IntKind.max, IntKind.bits, IntKind.signed]; omega
  unfold keyOf
  simp only [hu]
  rw [if_pos (by simp [hkt, Value.formed, hu, cellsPr]), hm]
  unfold Program.keyLits
  simp [hu, Value.cells, cellsPr, Program.keyLits, hu3, w1, w2, cellsI32]
/-- What joins to what, by the lines at some places. -/
def jnE (out : List Int) (e : Int × List Int) : Option ((Int × Int) × Int) := match e.2 with
  | [a, b] => if e.1 ∈ out then none else some ((a, b), e.1)
  | _ => none
def encJ (p : (Int × Int) × Int) : Value × Value := (pairV p.1, .int .i32 p.2)
def ones (l : List Int) : List (Value × Value) := l.map fun r => (.int .i32 r, .int .i64 1)
theorem ones_keys {l : List Int} (h : ∀ r ∈ l, 0 ≤ r ∧ r < 16777216) : ∀ p ∈ ones l, ∃ q, keyOf Tryz.prog 21 p.1 = some q := by
  intro p hp
  obtain ⟨r, hr, rfl⟩ := List.mem_map.1 hp
  have := h r hr
  exact ⟨_, key_i32 this.1 (by omega)⟩
end Go.Proofs.YteokfknkcbmigaaGreatDoor
