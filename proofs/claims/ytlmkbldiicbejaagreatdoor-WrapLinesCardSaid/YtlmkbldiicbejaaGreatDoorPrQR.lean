/-
  What a line says. A database as it is made: its names, its map, its sets.
-/
import Derived.Test.YtlmkbldiicbejaaGreatDoorPrO
import Derived.StringKeys
section
namespace Go.Proofs.YtlmkbldiicbejaaGreatDoor
open Go.RowKit Go.Rp Go.Maps Go.Cl Go.Shelf

theorem c_quoted (s : ByteArray) (w : World) (h0 : 0 < s.size) (h : s[0] ≠ 39) : Calls Tryz.prog 93 #[.string s] w fun e w' => e = .returned (.int .i64 0) ∧ Ext w w' := by
  have hem := emp_false h0
  have hI : (0 : Int) < (s.size : Nat) := by omega
  have hn : ¬ ((s[0].toNat : Nat) : Int) = 39 := fun e => h (UInt8.toNat.inj ((show s[0].toNat = 39 by omega).trans rfl))
  have hb : (((s[0].toNat : Nat) : Int) == 39) = false := beq_false_of_ne hn
  clear h
  go_enter Tryz.func93, Tryz.ntmps93
  go_wp2_with fail
  exact ret_one rfl rfl rfl ⟨rfl, Ext.refl _⟩
set_option maxRecDepth 100000 in
set_option maxHeartbeats 4000000 in
theorem c_find (s : ByteArray) (c : UInt8) (k : Nat) (r : Int) (w : World) (hs : s.size ≤ 100000) (hq : ∀ x ∈ s.data.toList, x ≠ 39) (hk : k ≤ s.size) (hlow : ∀ j (h : j < k), s[j] ≠ c) (hr : (k = s.size ∧ r = -1) ∨ ((∃ h : k < s.size, s[k] = c) ∧ r = (k : Nat))) :
    Calls Tryz.prog 69 #[.string s, .int .u8 (c.toNat : Nat)] w fun e w' => e = .returned (.int .i64 r) ∧ Ext w w' := by
  have HQ := Lib.hid hq
  have HL := Lib.hid hlow
  have HR := Lib.hid hr
  clear hq hlow hr
  go_enter Tryz.func69, Tryz.ntmps69
  go_wp2_with fail
  go_loopw [5, 6] (fun iv nv W => ∃ i : Nat, iv = .int .i64 (i : Nat) ∧ i ≤ k ∧ Hid (Ext w W)) (fun iv _ _ => s.size + 1 - (intOf iv).toNat)
  case atStart => exact ⟨0, rfl, Nat.zero_le _, Lib.hid (Ext.refl _)⟩
  case round =>
    obtain ⟨i, rfl, hi, HX⟩ := hrel
    obtain ⟨W, rfl⟩ : ∃ W, W = wr := ⟨_, rfl⟩
    by_cases hlt : i < s.size
    · have hI : ((i : Nat) : Int) < (s.size : Nat) := by omega
      have hI2 : ((i : Nat) : Int) ≤ (s.size : Nat) := by omega
      have hd : decide (i < s.size) = true := decide_eq_true hlt
      obtain ⟨x, hx⟩ : ∃ x, s.extract i s.size = x := ⟨_, rfl⟩
      have hxs : 0 < x.size := by rw [← hx]; simp; omega
      have hx0 : x[0] = s[i] := byte_at hxs (by
        rw [← hx, toList_extract, List.getElem?_take_of_lt (by omega), List.getElem?_drop, Nat.add_zero]
        exact List.getElem?_eq_getElem (by rw [len_eq]; exact hlt))
      have hne : s[i] ≠ 39 := by
        have := HQ.out s[i] (by
          have h1 := List.getElem_mem (l := s.data.toList) (n := i) (by rw [len_eq]; exact hlt)
          exact h1)
        exact this
      have HCQ := Lib.hid (c_quoted x W hxs (by rw [hx0]; exact hne))
      have HXX := Lib.hid hx
      clear hx0 hne hxs hx
      go_wp2_with fail
      simp only [HXX.out]
      refine HCQ.out.mono ?_
      rintro e w2 ⟨rfl, hx2⟩
      have HX2 := Lib.hid (HX.out.trans hx2)
      clear hx2
      by_cases hik : i = k
      · subst hik
        have hc : s[i] = c := by
          rcases HR.out with ⟨h1, _⟩ | ⟨⟨h1, h2⟩, _⟩
          · omega
          · exact h2
        have hcb : ((s[i].toNat : Nat) : Int) = (c.toNat : Nat) := by rw [hc]
        have hre : r = (i : Nat) := by
          rcases HR.out with ⟨h1, _⟩ | ⟨_, h2⟩
          · omega
          · exact h2
        have HRE := Lib.hid hre
        have hcc : (((s[i].toNat : Nat) : Int) == (c.toNat : Nat)) = true := by rw [hc]; simp
        clear hre hc
        go_wp2_with fail
        exact ret_one rfl rfl rfl ⟨by rw [HRE.out]; rfl, HX2.out⟩
      · have hc : s[i] ≠ c := HL.out i (by omega)
        have hcb : ¬ ((s[i].toNat : Nat) : Int) = (c.toNat : Nat) := fun e => hc (UInt8.toNat.inj (by omega))
        have hcc : (((s[i].toNat : Nat) : Int) == (c.toNat : Nat)) = false := beq_false_of_ne hcb
        clear hc
        go_wp2_with fail
        exact ⟨⟨i + 1, by simp, by omega, HX2⟩, by simp only [intOf]; omega⟩
    · have hI : ¬ ((i : Nat) : Int) < (s.size : Nat) := by omega
      have hd : decide (i < s.size) = false := decide_eq_false hlt
      have HRE := Lib.hid (show r = -1 by
        rcases HR.out with ⟨_, h2⟩ | ⟨⟨h1, _⟩, _⟩
        · exact h2
        · omega)
      clear hlt
      go_wp2_with fail
      exact ret_one rfl rfl rfl ⟨by rw [HRE.out]; rfl, HX.out⟩
end Go.Proofs.YtlmkbldiicbejaaGreatDoor
end

section
namespace Go.Proofs.YtlmkbldiicbejaaGreatDoor
open Go.RowKit Go.Rp Go.Maps Go.Cl Go.Shelf

/-- A row of ranges in a block of ranges. -/
def RHold (W : World) (u : Value) (l : List (Nat × Nat)) : Prop :=
  ∃ p cap, u = .slice p l.length cap ∧ l.length ≤ cap ∧ (p = none → cap = 0) ∧ (l ≠ [] → ∃ g cs fz, p = some ⟨g, 0, none⟩ ∧ W.heap[g]? = some (.cells cs 139 fz) ∧ ∀ (i : Nat) x, l[i]? = some x → cs[i * 2]? = some (.int .i32 (x.1 : Nat)) ∧ cs[i * 2 + 1]? = some (.int .i32 (x.2 : Nat)))
theorem RHold.ext {W W' : World} {u : Value} {l : List (Nat × Nat)} (h : RHold W u l) (hx : Ext W W') : RHold W' u l := by
  obtain ⟨p, cap, e, hc, hn, h2⟩ := h
  exact ⟨p, cap, e, hc, hn, fun hne => by
    obtain ⟨g, cs, fz, e1, hb, h3⟩ := h2 hne
    exact ⟨g, cs, fz, e1, hx.blk hb, h3⟩⟩
theorem RHold.but {W W' : World} {u : Value} {l : List (Nat × Nat)} {r : Option Nat} (h : RHold W u l) (hg : W.grownBy W' r) (hr : ∀ b cs fz, W.heap[b]? = some (.cells cs 139 fz) → some b ≠ r) : RHold W' u l := by
  obtain ⟨p, cap, e, hc, hn, h2⟩ := h
  exact ⟨p, cap, e, hc, hn, fun hne => by
    obtain ⟨g, cs, fz, e1, hb, h3⟩ := h2 hne
    exact ⟨g, cs, fz, e1, (hg.block g (blk_lt hb) (hr g cs fz hb)).trans hb, h3⟩⟩
theorem RHold.row {W : World} {u : Value} {l : List (Nat × Nat)} (h : RHold W u l) : RRow W u l := by
  obtain ⟨p, cap, e, hc, hn, h2⟩ := h
  exact ⟨p, cap, e, hc, fun hne => by
    obtain ⟨g, cs, fz, e1, hb, h3⟩ := h2 hne
    refine ⟨g, 0, e1, fun i hi => ?_⟩
    obtain ⟨a, b⟩ := h3 i _ (List.getElem?_eq_getElem hi)
    rw [Nat.zero_add]
    exact ⟨(cell_blk hb _).trans a, (cell_blk hb _).trans b⟩⟩
theorem RHold.nil {W : World} {u : Value} {l : List (Nat × Nat)} (h : RHold W u l) : NilOk u := by
  obtain ⟨p, cap, e, hc, hn, h2⟩ := h
  intro n c e2
  rw [e] at e2
  obtain ⟨rfl, _, rfl⟩ := Value.slice.inj e2
  exact hn rfl
theorem RHold.none (W : World) : RHold W (.slice none 0 0) [] := ⟨Option.none, 0, rfl, Nat.le_refl _, fun _ => rfl, fun h => absurd rfl h⟩
theorem RHold.of_own {w : World} {B : Nat} {v : Value} {l : List (Nat × Nat)} (h : w.ownsRow B 139 2 v l.length (rgW l)) : RHold w v l := by
  rcases h.2 with ⟨e, h0⟩ | ⟨g, cap, cur, e, _, hg, hcap, _, hsz, htk⟩
  · exact ⟨Option.none, 0, by rw [e, h0], by omega, fun _ => rfl, fun hne => absurd (List.length_eq_zero_iff.1 h0) hne⟩
  · refine ⟨_, cap, e, hcap, (fun e => by cases e), fun _ => ⟨g, cur, _, rfl, hg, fun i x hx => ?_⟩⟩
    obtain ⟨hi, hx⟩ := List.getElem?_eq_some_iff.1 hx
    obtain ⟨h1, h2⟩ := rgW_at l i hi
    have key : ∀ j, j < l.length * 2 → cur[j]? = (rgW l)[j]? := fun j hj => by
      rw [← htk, List.getElem?_take_of_lt hj]
      exact (Array.getElem?_toList (xs := cur) (i := j)).symm
    rw [key _ (by omega), key _ (by omega), h1, h2, hx]
    exact ⟨rfl, rfl⟩
def strW (N : List (List UInt8)) : List Value := N.map fun x => Value.string ⟨x.toArray⟩
/-- The names with their numbers. -/
def nameKV : Nat → List (List UInt8) → List (Value × Value)
  | _, [] => []
  | i, x :: l => (.string ⟨x.toArray⟩, .int .i64 (i : Nat)) :: nameKV (i + 1) l
theorem nameKV_app : ∀ (a b : List (List UInt8)) (i : Nat), nameKV i (a ++ b) = nameKV i a ++ nameKV (i + a.length) b
  | [], b, i => by simp [nameKV]
  | x :: a, b, i => by rw [List.cons_append, nameKV, nameKV, nameKV_app a b (i + 1), List.cons_append, List.length_cons, show i + 1 + a.length = i + (a.length + 1) by omega]
theorem nameKV_mem : ∀ (a : List (List UInt8)) (i : Nat) (p : Value × Value), p ∈ nameKV i a → ∃ j, ∃ h : j < a.length, p = (.string ⟨a[j].toArray⟩, .int .i64 ((i + j : Nat) : Nat))
  | [], i, p, h => by cases h
  | x :: a, i, p, h => by
    rcases List.mem_cons.1 h with rfl | h
    · exact ⟨0, by simp, rfl⟩
    · obtain ⟨j, hj, e⟩ := nameKV_mem a (i + 1) p h
      exact ⟨j + 1, by simpa using hj, by rw [e, show i + 1 + j = i + (j + 1) by omega]; rfl⟩
theorem nameKV_at : ∀ (a : List (List UInt8)) (i j : Nat) (h : j < a.length), (Value.string ⟨a[j].toArray⟩, Value.int .i64 ((i + j : Nat) : Nat)) ∈ nameKV i a
  | [], i, j, h => by cases h
  | x :: a, i, 0, h => List.mem_cons_self ..
  | x :: a, i, j + 1, h => by
    have := nameKV_at a (i + 1) j (by simpa using h)
    rw [show i + 1 + j = i + (j + 1) by omega] at this
    exact List.mem_cons_of_mem _ this
/-- A database while it is made. -/
structure DbSt (B : Nat) (W : World) (db mb : Nat) (nv sv : Value) (N : List (List UInt8)) (S : List (List (Nat × Nat))) : Prop where
  d : W.heap[db]? = some (.cells #[nv, .map (some mb), sv, .slice none 0 0] 104 (0, 0))
  n : W.ownsRow B 9 1 nv N.length (strW N)
  m : MapIs W mb (nameKV 0 N)
  s : ∃ vs, W.ownsRow B 130 1 sv S.length vs ∧ ∀ (i : Nat) u l, vs[i]? = some u → S[i]? = some l → RHold W u l
  b : B ≤ db ∧ B ≤ mb
  l : S.length = N.length
  k : N.length ≤ 62
  w : ∀ x ∈ N, x.length ≤ 32
theorem DbSt.keys {B : Nat} {W : World} {db mb : Nat} {nv sv : Value} {N : List (List UInt8)} {S : List (List (Nat × Nat))} (h : DbSt B W db mb nv sv N S) : ∀ p ∈ nameKV 0 N, ∃ l, keyOf Tryz.prog 9 p.1 = some l := by
  intro p hp
  obtain ⟨j, hj, rfl⟩ := nameKV_mem _ _ _ hp
  have := h.w _ (List.getElem_mem hj)
  exact ⟨_, Go.WideMaps.keyOf_string_mk Tryz.underlying9 (by show N[j].toArray.size ≤ _; rw [List.size_toArray]; unfold maxLen; omega)⟩
theorem key_str (x : List UInt8) (h : x.length ≤ 32) : keyOf Tryz.prog 9 (.string ⟨x.toArray⟩) = some (.string x.toArray.toList) := Go.WideMaps.keyOf_string_mk Tryz.underlying9 (by show x.toArray.size ≤ _; rw [List.size_toArray]; unfold maxLen; omega)
theorem DbSt.look {B : Nat} {W : World} {db mb : Nat} {nv sv : Value} {N : List (List UInt8)} {S : List (List (Nat × Nat))} (h : DbSt B W db mb nv sv N S) {x : List UInt8} (hx : x.length ≤ 32) (hn : x ∉ N) :
    (Instr.lookup 100 (.map (some mb)) (.string ⟨x.toArray⟩) true).run Tryz.prog W = .ok (.tuple #[.int .i64 0, .bool false]) W :=
  h.m.none (string_keyed Tryz.underlying9) Tryz.underlying100 h.keys (key_str x hx) (fun W => Tryz.zeroValue3 W) (fun p hp e => by
    obtain ⟨j, hj, rfl⟩ := nameKV_mem _ _ _ hp
    exact hn (str_inj e ▸ List.getElem_mem hj)) true
theorem DbSt.ext {B : Nat} {W W' : World} {db mb : Nat} {nv sv : Value} {N : List (List UInt8)} {S : List (List (Nat × Nat))} (h : DbSt B W db mb nv sv N S) (hx : Ext W W') : DbSt B W' db mb nv sv N S := by
  obtain ⟨vs, h1, h2⟩ := h.s
  exact ⟨hx.blk h.d, ownsRow_ext h.n hx, h.m.ext hx, ⟨vs, ownsRow_ext h1 hx, fun i u l a b => (h2 i u l a b).ext hx⟩, h.b, h.l, h.k, h.w⟩
end Go.Proofs.YtlmkbldiicbejaaGreatDoor
end
