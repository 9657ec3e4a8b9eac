/-
  Rows of ranges; sets that have nothing in common; names; hexadecimal digits. Names; hexadecimal digits. A rune by its number, out of a spelling.
-/
import Derived.Test.YtlmkbldiicbejaaGreatDoorPlainM
import Derived.Test.YtlmkbldiicbejaaGreatDoorKitW
section
namespace Go.Proofs.YtlmkbldiicbejaaGreatDoor
open Go.RowKit Go.Rp Go.Maps Go.Cl

/-- The cells of a row of ranges. -/
def rgW (l : List (Nat × Nat)) : List Value := l.flatMap fun x => [.int .i32 (x.1 : Nat), .int .i32 (x.2 : Nat)]
/-- A row of ranges. -/
def RRow (w : World) (v : Value) (l : List (Nat × Nat)) : Prop :=
  ∃ p cap, v = .slice p l.length cap ∧ l.length ≤ cap ∧ (l ≠ [] → ∃ g off, p = some ⟨g, off, none⟩ ∧ ∀ i (h : i < l.length), w.cell? ⟨g, off + i * 2, none⟩ = some (.int .i32 (l[i].1 : Nat)) ∧ w.cell? ⟨g, off + i * 2 + 1, none⟩ = some (.int .i32 (l[i].2 : Nat)))
theorem RRow.ext {w w' : World} {v : Value} {l : List (Nat × Nat)} (h : RRow w v l) (hx : Ext w w') : RRow w' v l := by
  obtain ⟨p, cap, e, hc, h2⟩ := h
  exact ⟨p, cap, e, hc, fun hne => by
    obtain ⟨g, off, rfl, h3⟩ := h2 hne
    exact ⟨g, off, rfl, fun i hi => ⟨hx.cell (h3 i hi).1, hx.cell (h3 i hi).2⟩⟩⟩
theorem rgW_at (l : List (Nat × Nat)) : ∀ i (h : i < l.length), (rgW l)[i * 2]? = some (.int .i32 (l[i].1 : Nat)) ∧ (rgW l)[i * 2 + 1]? = some (.int .i32 (l[i].2 : Nat)) := by
  induction l with
  | nil => intro i h; cases h
  | cons x l ih =>
    intro i h
    cases i with
    | zero => exact ⟨rfl, rfl⟩
    | succ i =>
      have := ih i (by simpa using h)
      rw [show (i + 1) * 2 = i * 2 + 1 + 1 by omega]
      exact this
theorem rgW_len (l : List (Nat × Nat)) : (rgW l).length = l.length * 2 := by
  induction l with
  | nil => rfl
  | cons x l ih =>
    show (rgW l).length + 1 + 1 = _
    rw [ih, List.length_cons]
    omega
theorem rgW_app (a b : List (Nat × Nat)) : rgW (a ++ b) = rgW a ++ rgW b := by simp [rgW, List.flatMap_append]
theorem rgW_one (l : List (Nat × Nat)) : ∀ u ∈ rgW l, u.oneCell' = true := by
  intro u hu
  simp only [rgW, List.mem_flatMap] at hu
  obtain ⟨x, _, hu⟩ := hu
  simp at hu
  rcases hu with rfl | rfl <;> rfl
theorem RRow.of_own {w : World} {B : Nat} {v : Value} {l : List (Nat × Nat)} (h : w.ownsRow B 139 2 v l.length (rgW l)) : RRow w v l := by
  rcases h.2 with ⟨e, h0⟩ | ⟨g, cap, cur, e, _, _, hcap, _⟩
  · exact ⟨none, 0, by rw [e, h0], by omega, fun hne => absurd (List.length_eq_zero_iff.1 h0) hne⟩
  · refine ⟨_, cap, e, hcap, fun _ => ⟨g, 0, rfl, fun i hi => ?_⟩⟩
    subst e
    obtain ⟨h1, h2⟩ := rgW_at l i hi
    rw [Nat.zero_add]
    exact ⟨(h.cellAt (i * 2) (by omega)).trans h1, (h.cellAt (i * 2 + 1) (by omega)).trans h2⟩
theorem RRow.nil (w : World) : RRow w (.slice none 0 0) [] := ⟨none, 0, rfl, Nat.le_refl _, fun h => absurd rfl h⟩
theorem RRow.tail {w : World} {g off c : Nat} {x : Nat × Nat} {l : List (Nat × Nat)} (h : RRow w (.slice (some ⟨g, off, none⟩) (l.length + 1) c) (x :: l)) :
    RRow w (.slice (if c = 1 then some ⟨g, off, none⟩ else some ⟨g, off + 2, none⟩) l.length (c - 1)) l := by
  obtain ⟨p, cap, e, hc, h2⟩ := h
  obtain ⟨rfl, -, rfl⟩ := Value.slice.inj e
  simp only [List.length_cons] at hc
  refine ⟨_, _, rfl, by omega, fun hne => ?_⟩
  have hl := List.length_pos_iff.2 hne
  rw [if_neg (by omega)]
  obtain ⟨g', off', e', h3⟩ := h2 (by simp)
  obtain ⟨rfl, rfl⟩ : g = g' ∧ off = off' := by simpa using e'
  refine ⟨g, off + 2, rfl, fun i hi => ?_⟩
  have := h3 (i + 1) (by simpa using hi)
  rw [show off + (i + 1) * 2 = off + 2 + i * 2 by omega] at this
  exact this
def lenV : Value → Nat
  | .slice _ n _ => n
  | _ => 0
set_option maxRecDepth 100000 in
set_option maxHeartbeats 4000000 in
theorem c_meet (av bv : Value) (A B : List (Nat × Nat)) (w : World) (ha : RRow w av A) (hb : RRow w bv B) (hA : A.length ≤ 100000) (hB : B.length ≤ 100000) (hap : apartR A B) :
    Calls Tryz.prog 75 #[av, bv] w fun e w' => e = .returned (.bool false) ∧ Ext w w' := by
  go_enter Tryz.func75, Tryz.ntmps75
  go_wp2_with fail
  go_loopw [0, 1] (fun a b W => ∃ A' B' : List (Nat × Nat), Hid (RRow W a A') ∧ Hid (RRow W b B') ∧ Hid (apartR A' B') ∧ A'.length ≤ 100000 ∧ B'.length ≤ 100000 ∧ Hid (Ext w W)) (fun a b _ => lenV a + lenV b)
  case atStart => exact ⟨A, B, Lib.hid ha, Lib.hid hb, Lib.hid hap, hA, hB, Lib.hid (Ext.refl _)⟩
  case round =>
    obtain ⟨A', B', HA, HB, HAP, hlA, hlB, HX⟩ := hrel
    obtain ⟨p, c, rfl, hcA, hp⟩ := HA.out
    obtain ⟨q, d, rfl, hcB, hq⟩ := HB.out
    have hIA : ((A'.length : Nat) : Int) ≤ 100000 := by omega
    have hIB : ((B'.length : Nat) : Int) ≤ 100000 := by omega
    cases A' with
    | nil =>
      go_wp2_with fail
      exact ret_one rfl rfl rfl ⟨rfl, HX.out⟩
    | cons x A' =>
      cases B' with
      | nil =>
        go_wp2_with fail
        exact ret_one rfl rfl rfl ⟨rfl, HX.out⟩
      | cons y B' =>
        obtain ⟨g, off, rfl, hcx⟩ := hp (by simp)
        obtain ⟨k, oft, rfl, hcy⟩ := hq (by simp)
        have hx1 := (hcx 0 (by simp)).1
        have hx2 := (hcx 0 (by simp)).2
        have hy1 := (hcy 0 (by simp)).1
        have hy2 := (hcy 0 (by simp)).2
        simp only [List.getElem_cons_zero, Nat.zero_mul, Nat.add_zero] at hx1 hx2 hy1 hy2
        clear hp hq hcx hcy
        have s1 : ∀ w', EOn (fun _ => True) wr w' → w'.cell? ⟨g, off, none⟩ = some (.int .i32 (x.1 : Nat)) := fun w' hx => hx.cell trivial hx1
        have s2 : ∀ w', EOn (fun _ => True) wr w' → w'.cell? ⟨g, off + 1, none⟩ = some (.int .i32 (x.2 : Nat)) := fun w' hx => hx.cell trivial hx2
        have s3 : ∀ w', EOn (fun _ => True) wr w' → w'.cell? ⟨k, oft, none⟩ = some (.int .i32 (y.1 : Nat)) := fun w' hx => hx.cell trivial hy1
        have s4 : ∀ w', EOn (fun _ => True) wr w' → w'.cell? ⟨k, oft + 1, none⟩ = some (.int .i32 (y.2 : Nat)) := fun w' hx => hx.cell trivial hy2
        clear hx1 hx2 hy1 hy2
        by_cases h1 : x.2 < y.1
        · have h1I : ((x.2 : Nat) : Int) < (y.1 : Nat) := by omega
          have h1d : decide (x.2 < y.1) = true := decide_eq_true h1
          go_wp2_with fail
          refine wp_lex (fun _ => True) [true, true, true, true, true, true, true, true, true, true] (by kernel_rfl) (by kernel_rfl) ?_
          repeat first
            | refine wpG_move' ?_
            | refine wpG_assign' ?_
            | refine wpG_val' ?_
            | refine wpG_no' ?_
          refine wpG_end (fun w7 hx7 => wpList_nil (gQ_normal ?_))
          go_wp2_with fail
          exact ⟨⟨A', y :: B', Lib.hid (RRow.tail (HA.out.ext hx7)), Lib.hid ((HB.out).ext hx7), Lib.hid (fun a ha b hb => HAP.out a (List.mem_cons_of_mem _ ha) b hb), by simp at hlA; omega, hlB, Lib.hid (HX.out.trans hx7)⟩, by simp only [lenV, List.length_cons]; omega⟩
        · have h1I : ¬ ((x.2 : Nat) : Int) < (y.1 : Nat) := by omega
          have h1d : decide (x.2 < y.1) = false := decide_eq_false h1
          have h2 : y.2 < x.1 := (HAP.out x (List.mem_cons_self ..) y (List.mem_cons_self ..)).resolve_left h1
          have h2I : ((y.2 : Nat) : Int) < (x.1 : Nat) := by omega
          have h2d : decide (y.2 < x.1) = true := decide_eq_true h2
          go_wp2_with fail
          refine wp_lex (fun _ => True) [true, true, true, true, true, true, true, true, true, true] (by kernel_rfl) (by kernel_rfl) ?_
          repeat first
            | refine wpG_move' ?_
            | refine wpG_assign' ?_
            | refine wpG_val' ?_
            | refine wpG_no' ?_
          refine wpG_end (fun w7 hx7 => wpList_nil (gQ_normal ?_))
          go_wp2_with fail
          replace s1 : ∀ w', EOn (fun _ => True) w7 w' → w'.cell? ⟨g, off, none⟩ = some (.int .i32 (x.1 : Nat)) := fun w' hx => s1 w' ((EOn.of_ext hx7).trans hx)
          replace s4 : ∀ w', EOn (fun _ => True) w7 w' → w'.cell? ⟨k, oft + 1, none⟩ = some (.int .i32 (y.2 : Nat)) := fun w' hx => s4 w' ((EOn.of_ext hx7).trans hx)
          clear s2 s3
          refine wp_lex (fun _ => True) [true, true, true, true, true, true, true, true, true, true] (by kernel_rfl) (by kernel_rfl) ?_
          repeat first
            | refine wpG_move' ?_
            | refine wpG_assign' ?_
            | refine wpG_val' ?_
            | refine wpG_no' ?_
          refine wpG_end (fun w8 hx8 => wpList_nil (gQ_normal ?_))
          go_wp2_with fail
          exact ⟨⟨x :: A', B', Lib.hid ((HA.out.ext hx7).ext hx8), Lib.hid (RRow.tail ((HB.out.ext hx7).ext hx8)), Lib.hid (fun a ha b hb => HAP.out a ha b (List.mem_cons_of_mem _ hb)), hlA, by simp at hlB; omega, Lib.hid ((HX.out.trans hx7).trans hx8)⟩, by simp only [lenV, List.length_cons]; omega⟩
end Go.Proofs.YtlmkbldiicbejaaGreatDoor
end

section
namespace Go.Proofs.YtlmkbldiicbejaaGreatDoor
open Go.RowKit Go.Rp Go.Maps Go.Cl

/-- What a byte of a name is. -/
theorem part_cases {c : UInt8} (h : partB c = true) : (65 ≤ c.toNat ∧ c.toNat ≤ 90) ∨ (97 ≤ c.toNat ∧ c.toNat ≤ 122) ∨ (letB c = false ∧ 48 ≤ c.toNat ∧ c.toNat ≤ 57) ∨ (letB c = false ∧ c.toNat = 95) := by
  simp only [partB, letB, Bool.or_eq_true, Bool.and_eq_true, decide_eq_true_eq, beq_iff_eq] at h
  rcases h with ((h | h) | h) | h
  · exact .inl h
  · exact .inr (.inl h)
  · refine .inr (.inr (.inl ⟨?_, h⟩))
    simp only [letB, Bool.or_eq_false_iff, Bool.and_eq_false_iff, decide_eq_false_iff_not]
    omega
  · subst h
    exact .inr (.inr (.inr ⟨by decide, by decide⟩))
set_option maxRecDepth 100000 in
set_option maxHeartbeats 4000000 in
theorem c_Name (s : ByteArray) (w : World) (h : nameB s.data.toList = true) : Calls Tryz.prog 71 #[.string s] w fun e w' => e = .returned (.bool true) ∧ Ext w w' := by
  simp only [nameB, Bool.and_eq_true, decide_eq_true_eq, List.all_eq_true, len_eq] at h
  obtain ⟨⟨⟨h1, h2⟩, h3⟩, h4⟩ := h
  have HH := Lib.hid (And.intro h3 h4)
  have hcv := fun w => Lib.run_convert_string_bytes (P := Tryz.prog) w 9 166 5 s Tryz.underlying9 Tryz.underlying166 Tryz.underlying5
  clear h3 h4
  go_enter Tryz.func71, Tryz.ntmps71
  go_wp2_with fail
  obtain ⟨hx1, hc1⟩ := bytes_of w 5 s
  generalize Lib.bytesWorld w 5 s = w1 at hx1 hc1 ⊢
  have HX1 := Lib.hid (And.intro hx1 hc1)
  clear hcv hx1 hc1
  generalize grownCap _ _ _ _ = cp
  go_loopw [9] (fun iv W => ∃ i : Nat, iv = .int .i64 (i : Nat) ∧ i ≤ s.size ∧ Hid (Ext w1 W)) (fun iv _ => s.size + 1 - (intOf iv).toNat)
  case atStart => exact ⟨0, rfl, by omega, Lib.hid (Ext.refl _)⟩
  case round =>
    obtain ⟨i, rfl, hi, HX⟩ := hrel
    by_cases hlt : i < s.size
    · have hlt' : i < s.data.toList.length := by simpa using hlt
      have hd : decide (i < s.size) = true := decide_eq_true hlt
      have hI : ((i : Nat) : Int) < (s.size : Nat) := by omega
      have hcell := HX.out.cell (HX1.out.2 i hlt')
      have hp := part_cases (HH.out.2 _ (List.getElem_mem hlt'))
      have hz : i = 0 → letB s.data.toList[i] = true := fun h0 => by
        subst h0
        have := HH.out.1
        rw [List.headD_eq_head?_getD, List.head?_eq_getElem?, List.getElem?_eq_getElem hlt'] at this
        exact this
      generalize s.data.toList[i] = c at hcell hp hz
      obtain ⟨q, hq⟩ : ∃ q, c.toNat = q := ⟨_, rfl⟩
      rw [hq] at hcell hp
      rcases hp with hp | hp | hp | hp
      · have a1 : (65 : Int) ≤ (q : Nat) := (by omega); have a2 : ((q : Nat) : Int) ≤ 90 := (by omega)
        clear hp hz hq hlt hlt'
        go_wp2_with fail
        exact ⟨⟨i + 1, by simp, by omega, HX⟩, by simp only [intOf]; omega⟩
      · have a1 : (65 : Int) ≤ (q : Nat) := (by omega); have a2 : ¬ ((q : Nat) : Int) ≤ 90 := (by omega); have a3 : (97 : Int) ≤ (q : Nat) := (by omega); have a4 : ((q : Nat) : Int) ≤ 122 := (by omega)
        clear hp hz hq hlt hlt'
        go_wp2_with fail
        exact ⟨⟨i + 1, by simp, by omega, HX⟩, by simp only [intOf]; omega⟩
      · have hi0 : i ≠ 0 := (fun h0 => by rw [hz h0] at hp; cases hp.1); have hi1 : ¬ ((i : Nat) : Int) = 0 := (by omega); have a1 : ¬ (65 : Int) ≤ (q : Nat) := (by omega); have a3 : ¬ (97 : Int) ≤ (q : Nat) := (by omega); have a5 : (48 : Int) ≤ (q : Nat) := (by omega); have a6 : ((q : Nat) : Int) ≤ 57 := (by omega)
        clear hp hz hq hlt hlt'
        go_wp2_with fail
        exact ⟨⟨i + 1, by simp, by omega, HX⟩, by simp only [intOf]; omega⟩
      · have hi0 : i ≠ 0 := (fun h0 => by rw [hz h0] at hp; cases hp.1); have hi1 : ¬ ((i : Nat) : Int) = 0 := (by omega); obtain rfl : q = 95 := hp.2
        clear hp hz hq hlt hlt'
        go_wp2_with fail
        exact ⟨⟨i + 1, by simp, by omega, HX⟩, by simp only [intOf]; omega⟩
    · have hd : decide (i < s.size) = false := decide_eq_false hlt
      have hI : ¬ ((i : Nat) : Int) < (s.size : Nat) := by omega
      have k1 : (1 : Int) ≤ (s.size : Nat) := by omega
      have k2 : ((s.size : Nat) : Int) ≤ 32 := by omega
      clear hlt hi h1 h2
      go_wp2_with fail
      exact ret_one rfl rfl rfl ⟨rfl, HX1.out.1.trans HX.out⟩
end Go.Proofs.YtlmkbldiicbejaaGreatDoor
end

section
namespace Go.Proofs.YtlmkbldiicbejaaGreatDoor
open Go.RowKit Go.Rp Go.Maps Go.Cl

theorem hexN_eq (l : List UInt8) : hexN l = hexV l := rfl
theorem hexP_is {c : UInt8} (h : hexP c = true) : isHex c := by
  simp only [hexP, Bool.or_eq_true, Bool.and_eq_true, decide_eq_true_eq] at h
  exact h
theorem c_rhexG (q : Nat) (b : Bool) (w : World) (h : b = true ↔ (48 ≤ q ∧ q ≤ 57) ∨ (65 ≤ q ∧ q ≤ 70)) : Calls Tryz.prog 173 #[.int .u8 (q : Nat)] w fun e w' => e = .returned (.bool b) ∧ w' = w := by
  by_cases b1 : 48 ≤ q
  · have a1 : (48 : Int) ≤ (q : Nat) := by omega
    by_cases b2 : q ≤ 57
    · have a2 : ((q : Nat) : Int) ≤ 57 := by omega
      obtain rfl : b = true := h.2 (.inl ⟨b1, b2⟩)
      clear h b1 b2
      go_enter Tryz.func173, Tryz.ntmps173
      go_wp2_with fail
      exact ret_one rfl rfl rfl ⟨rfl, rfl⟩
    · have a2 : ¬ ((q : Nat) : Int) ≤ 57 := by omega
      by_cases b3 : 65 ≤ q
      · have a3 : (65 : Int) ≤ (q : Nat) := by omega
        by_cases b4 : q ≤ 70
        · have a4 : ((q : Nat) : Int) ≤ 70 := by omega
          obtain rfl : b = true := h.2 (.inr ⟨b3, b4⟩)
          clear h b1 b2 b3 b4
          go_enter Tryz.func173, Tryz.ntmps173
          go_wp2_with fail
          exact ret_one rfl rfl rfl ⟨rfl, rfl⟩
        · have a4 : ¬ ((q : Nat) : Int) ≤ 70 := by omega
          obtain rfl : b = false := by
            cases b with
            | false => rfl
            | true => have := h.1 rfl; omega
          clear h b1 b2 b3 b4
          go_enter Tryz.func173, Tryz.ntmps173
          go_wp2_with fail
          exact ret_one rfl rfl rfl ⟨rfl, rfl⟩
      · have a3 : ¬ (65 : Int) ≤ (q : Nat) := by omega
        obtain rfl : b = false := by
          cases b with
          | false => rfl
          | true => have := h.1 rfl; omega
        clear h b1 b2 b3
        go_enter Tryz.func173, Tryz.ntmps173
        go_wp2_with fail
        exact ret_one rfl rfl rfl ⟨rfl, rfl⟩
  · have a1 : ¬ (48 : Int) ≤ (q : Nat) := by omega
    have a3 : ¬ (65 : Int) ≤ (q : Nat) := by omega
    obtain rfl : b = false := by
      cases b with
      | false => rfl
      | true => have := h.1 rfl; omega
    clear h b1
    go_enter Tryz.func173, Tryz.ntmps173
    go_wp2_with fail
    exact ret_one rfl rfl rfl ⟨rfl, rfl⟩
theorem c_rhex (c : UInt8) (b : Bool) (w : World) (h : hexP c = b) : Calls Tryz.prog 173 #[.int .u8 (c.toNat : Nat)] w fun e w' => e = .returned (.bool b) ∧ Ext w w' :=
  (c_rhexG c.toNat b w (by rw [← h]; simp only [hexP, Bool.or_eq_true, Bool.and_eq_true, decide_eq_true_eq])).mono fun e w' h => ⟨h.1, by rw [h.2]; exact Ext.refl _⟩
theorem drop_get {l L : List UInt8} {k : Nat} (h : l.drop k = L) (m : Nat) (hm : k ≤ m) : l[m]? = L[m - k]? := by
  rw [← h, List.getElem?_drop, show k + (m - k) = m by omega]
theorem byte_at {s : ByteArray} {m : Nat} {c : UInt8} (hm : m < s.size) (h : s.data.toList[m]? = some c) : s[m] = c := by
  rw [List.getElem?_eq_getElem (show m < s.data.toList.length by rw [len_eq]; exact hm)] at h
  exact Option.some.inj h
/-- A reader in its block. -/
def RdAt (W : World) (xb : Nat) (s : ByteArray) (at' : Nat) : Prop := W.heap[xb]? = some (.cells #[.string s, .int .i64 (at' : Nat)] 172 (0, 0))
theorem RdAt.c0 {W : World} {xb : Nat} {s : ByteArray} {k : Nat} (h : RdAt W xb s k) : W.cell? ⟨xb, 0, none⟩ = some (.string s) := (cell_blk h 0).trans rfl
theorem RdAt.c1 {W : World} {xb : Nat} {s : ByteArray} {k : Nat} (h : RdAt W xb s k) : W.cell? ⟨xb, 1, none⟩ = some (.int .i64 (k : Nat)) := (cell_blk h 1).trans rfl
theorem RdAt.fz {W : World} {xb : Nat} {s : ByteArray} {k : Nat} (h : RdAt W xb s k) (i : Nat) : W.frozen? ⟨xb, i, none⟩ = false := frz_blk h i
theorem RdAt.set {W : World} {xb : Nat} {s : ByteArray} {k : Nat} (h : RdAt W xb s k) (m : Nat) : RdAt (W.setCell ⟨xb, 1, none⟩ (.int .i64 (m : Nat))) xb s m := set_blk h 1 _
theorem RdAt.ext {W W' : World} {xb : Nat} {s : ByteArray} {k : Nat} (h : RdAt W xb s k) (hx : Ext W W') : RdAt W' xb s k := hx.blk h
def boxN (b i : Nat) (W : World) : Nat := match W.cell? ⟨b, i, none⟩ with
  | some v => (intOf v).toNat
  | none => 0
theorem RdAt.box {W : World} {xb : Nat} {s : ByteArray} {k : Nat} (h : RdAt W xb s k) : boxN xb 1 W = k := by unfold boxN; rw [h.c1]; simp [intOf]
theorem grown_ext {W W' : World} (h : Ext W W') (row : Option Nat) : W.grownBy W' row := ⟨h.os, h.tape, h.output, h.size, fun k hk _ => h.block k hk⟩
set_option maxRecDepth 100000 in
set_option maxHeartbeats 4000000 in
theorem c_rnumber (xb : Nat) (s : ByteArray) (k : Nat) (d r : List UInt8) (w : World) (h : RdAt w xb s k) (hs : s.size ≤ 100000)
    (hl : s.data.toList.drop k = 85 :: 43 :: (d ++ r)) (hd : ∀ c ∈ d, hexP c = true) (hr : ∀ c, r.head? = some c → hexP c = false) (h4 : 4 ≤ d.length) (h6 : d.length ≤ 6) (hv : hexV d ≤ 1114111) :
    Calls Tryz.prog 156 #[.pointer (some ⟨xb, 0, none⟩)] w fun e w' => e = .returned (.int .i32 (hexV d : Nat)) ∧ RdAt w' xb s (k + 2 + d.length) ∧ w.grownBy w' (some xb) := by
  have hlen := congrArg List.length hl
  simp only [List.length_drop, List.length_cons, List.length_append, len_eq] at hlen
  have e0 := h.c0
  have e1 := h.c1
  have e2 := h.fz 1
  have HR := Lib.hid h
  have kI : ((k : Nat) : Int) + 2 + (d.length : Nat) ≤ 100000 := by omega
  go_enter Tryz.func156, Tryz.ntmps156
  go_wp2_with fail
  have h0 := HR.out.set (k + 2)
  have hg0 := grown_cell w xb 1 (.int .i64 ((k + 2 : Nat) : Nat))
  rw [show ((k + 2 : Nat) : Int) = (k : Nat) + 2 from by omega] at h0 hg0
  generalize w.setCell ⟨xb, 1, none⟩ (.int .i64 ((k : Nat) + 2)) = W1 at h0 hg0 ⊢
  go_loopw [] (fun W => ∃ m : Nat, k + 2 ≤ m ∧ m ≤ k + 2 + d.length ∧ Hid (RdAt W xb s m) ∧ Hid (w.grownBy W (some xb))) (fun W => s.size + 1 - boxN xb 1 W)
  case atStart => exact ⟨k + 2, by omega, by omega, Lib.hid h0, Lib.hid hg0⟩
  case round =>
    obtain ⟨m, hm1, hm2, HA, HG⟩ := hrel
    obtain ⟨W, rfl⟩ : ∃ W, W = wr := ⟨_, rfl⟩
    have f0 := HA.out.c0
    have f1 := HA.out.c1
    have f2 := HA.out.fz 1
    have g0 : ∀ w', EOn (fun _ => True) W w' → w'.cell? ⟨xb, 0, none⟩ = some (.string s) := fun w' hx => hx.cell trivial f0
    have g1 : ∀ w', EOn (fun _ => True) W w' → w'.cell? ⟨xb, 1, none⟩ = some (.int .i64 (m : Nat)) := fun w' hx => hx.cell trivial f1
    have HBX := Lib.hid HA.out.box
    by_cases hlt : m < k + 2 + d.length
    · have hms : m < s.size := by omega
      have hI : ((m : Nat) : Int) < (s.size : Nat) := by omega
      have hd' : decide (m < s.size) = true := decide_eq_true hms
      have HC := Lib.hid (fun (w' : World) => c_rhex s[m] true w' (by
        rw [byte_at (c := d[m - (k + 2)]'(by omega)) hms (by
          rw [drop_get hl m (by omega), show m - k = (m - (k + 2)) + 1 + 1 by omega, List.getElem?_cons_succ, List.getElem?_cons_succ, List.getElem?_append_left (by omega), List.getElem?_eq_getElem (by omega)])]
        exact hd _ (List.getElem_mem _)))
      go_wp2_with fail
      refine wp_lex (fun _ => True) [true, true, true, true, true, true, true, true, true, true, true, true, true, true, true, true, true, true, true, true, true, true] (by kernel_rfl) (by kernel_rfl) ?_
      repeat first
        | refine wpG_move' ?_
        | refine wpG_assign' ?_
        | refine wpG_call (by rfl) (fun w' hx => (by go_simp; first | exact rfl | exact ⟨rfl, rfl⟩)) (fun w' hx => (by first | exact HC.out w')) (by simp only [Act.put, List.setIfInBounds_toArray, List.set_cons_succ, List.set_cons_zero]; rfl) ?_
        | refine wpG_val' ?_
        | refine wpG_no' ?_
      refine wpG_end (fun w7 hx7 => wpList_nil (gQ_normal ?_))
      clear f0 f1 f2 g0 g1
      have HA7 := Lib.hid (HA.out.ext hx7)
      have HG7 := Lib.hid (HG.out.trans (grown_ext hx7 _))
      have f1 := HA7.out.c1
      have f2 := HA7.out.fz 1
      have hw1 : wrap64 ((m : Nat) + 1) = ((m + 1 : Nat) : Int) := by unfold wrap64; omega
      clear hx7
      go_wp2_with fail
      exact ⟨⟨m + 1, by omega, by omega, Lib.hid (HA7.out.set (m + 1)), Lib.hid (HG7.out.trans (grown_cell w7 xb 1 _))⟩, by have := (HA7.out.set (m + 1)).box; rw [show ((m + 1 : Nat) : Int) = (m : Nat) + 1 from by omega] at this; rw [this, HBX.out]; omega⟩
    · have HME := Lib.hid (show m = k + 2 + d.length by omega)
      clear hlt hm1 hm2
      by_cases hms : m < s.size
      · have hI : ((m : Nat) : Int) < (s.size : Nat) := by omega
        have hd' : decide (m < s.size) = true := decide_eq_true hms
        have HC := Lib.hid (fun (w' : World) => c_rhex s[m] false w' (by
          have hme := HME.out
          cases r with
          | nil => simp at hlen; omega
          | cons c r =>
            rw [byte_at (c := c) hms (by
              rw [drop_get hl m (by omega), show m - k = d.length + 1 + 1 by omega, List.getElem?_cons_succ, List.getElem?_cons_succ, List.getElem?_append_right (by omega), Nat.sub_self, List.getElem?_cons_zero])]
            exact hr c rfl))
        go_wp2_with fail
        refine wp_lex (fun _ => True) [true, true, true, true, true, true, true, true, true, true, true, true, true, true, true, true, true, true, true, true, true, true] (by kernel_rfl) (by kernel_rfl) ?_
        repeat first
          | refine wpG_move' ?_
          | refine wpG_assign' ?_
          | refine wpG_call (by rfl) (fun w' hx => (by go_simp; first | exact rfl | exact ⟨rfl, rfl⟩)) (fun w' hx => (by first | exact HC.out w')) (by simp only [Act.put, List.setIfInBounds_toArray, List.set_cons_succ, List.set_cons_zero]; rfl) ?_
          | refine wpG_val' ?_
          | refine wpG_no' ?_
        refine wpG_end (fun w7 hx7 => wpList_nil (gQ_normal ?_))
        clear f0 f1 f2 g0 g1
        have HA7 := Lib.hid (HA.out.ext hx7)
        have HG7 := Lib.hid (HG.out.trans (grown_ext hx7 _))
        have f0 := HA7.out.c0
        have f1 := HA7.out.c1
        clear hx7
        have q0 : ∀ w', EOn (fun _ => True) w7 w' → w'.cell? ⟨xb, 0, none⟩ = some (.string s) := fun w' hx => hx.cell trivial f0
        have q1 : ∀ w', EOn (fun _ => True) w7 w' → w'.cell? ⟨xb, 1, none⟩ = some (.int .i64 (m : Nat)) := fun w' hx => hx.cell trivial f1
        have b1 : ((k : Nat) : Int) + 2 ≤ (m : Nat) := by have := HME.out; omega
        have b2 : ((m : Nat) : Int) ≤ (s.size : Nat) := by have := HME.out; omega
        clear f0 f1
        go_wp2_with fail
        refine wp_lex (fun _ => True) [true, true, true, true, true, true, true, true, true, true, true, true] (by kernel_rfl) (by kernel_rfl) ?_
        repeat first
          | refine wpG_move' ?_
          | refine wpG_assign' ?_
          | refine wpG_val' ?_
          | refine wpG_no' ?_
        refine wpG_end (fun w8 hx8 => wpList_nil (gQ_normal ?_))
        clear q0 q1
        have hxd : (s.extract (k + 2) m).data.toList = d := by
          rw [toList_extract, show k + 2 = k + 1 + 1 from rfl]
          have h2 := congrArg (fun l : List UInt8 => (l.drop 2).take d.length) hl
          simp only [List.drop_drop, List.drop_succ_cons, List.drop_zero, List.take_left'] at h2
          rw [HME.out, show k + 2 + d.length - (k + 1 + 1) = d.length by omega]
          exact h2
        have hxs : (s.extract (k + 2) m).size = d.length := by rw [← len_eq, hxd]
        generalize s.extract (k + 2) m = x at hxd hxs ⊢
        have HX8 := Lib.hid (And.intro (HA7.out.ext hx8) (HG7.out.trans (grown_ext hx8 _)))
        have c1 : ¬ ((x.size : Nat) : Int) < 4 := by omega
        have c2 : ((x.size : Nat) : Int) ≤ 6 := by omega
        have HXD := Lib.hid (And.intro hxd hxs)
        have hvI : ((hexV d : Nat) : Int) ≤ 1114111 := by omega
        clear hxd hxs hx8 b1 b2
        go_wp2_with fail
        refine (c_ParseInt x w8 (by rw [HXD.out.2]; omega) (by rw [HXD.out.2]; omega) (fun c hc => hexP_is (hd c (by rw [← HXD.out.1]; exact hc)))).mono ?_
        rintro e w9 ⟨rfl, hx9⟩
        rw [HXD.out.1]
        have HX9 := Lib.hid (And.intro (HX8.out.1.ext hx9) (HX8.out.2.trans (grown_ext hx9 _)))
        clear hx9
        obtain ⟨v, hvv⟩ : ∃ v, hexV d = v := ⟨_, rfl⟩
        have HVV := Lib.hid hvv
        rw [hvv] at hvI ⊢
        clear hvv
        have hwr : IntKind.i32.wrap ((v : Nat) : Int) = (v : Nat) := wrap_i32 (by omega) (by omega)
        go_wp2_with fail
        exact ret_one rfl rfl rfl ⟨by rw [HVV.out]; rfl, by rw [← HME.out]; exact HX9.out.1, HX9.out.2⟩
      · have hI : ¬ ((m : Nat) : Int) < (s.size : Nat) := by omega
        have hd' : decide (m < s.size) = false := decide_eq_false hms
        go_wp2_with fail
        refine wp_lex (fun _ => True) [true, true, true, true, true, true, true, true, true, true, true, true, true, true, true, true, true, true, true, true, true, true] (by kernel_rfl) (by kernel_rfl) ?_
        repeat first
          | refine wpG_move' ?_
          | refine wpG_assign' ?_
          | refine wpG_val' ?_
          | refine wpG_no' ?_
        refine wpG_end (fun w7 hx7 => wpList_nil (gQ_normal ?_))
        clear f0 f1 f2 g0 g1
        have HA7 := Lib.hid (HA.out.ext hx7)
        have HG7 := Lib.hid (HG.out.trans (grown_ext hx7 _))
        have f0 := HA7.out.c0
        have f1 := HA7.out.c1
        clear hx7
        have q0 : ∀ w', EOn (fun _ => True) w7 w' → w'.cell? ⟨xb, 0, none⟩ = some (.string s) := fun w' hx => hx.cell trivial f0
        have q1 : ∀ w', EOn (fun _ => True) w7 w' → w'.cell? ⟨xb, 1, none⟩ = some (.int .i64 (m : Nat)) := fun w' hx => hx.cell trivial f1
        have b1 : ((k : Nat) : Int) + 2 ≤ (m : Nat) := by have := HME.out; omega
        have b2 : ((m : Nat) : Int) ≤ (s.size : Nat) := by have := HME.out; omega
        clear f0 f1
        go_wp2_with fail
        refine wp_lex (fun _ => True) [true, true, true, true, true, true, true, true, true, true, true, true] (by kernel_rfl) (by kernel_rfl) ?_
        repeat first
          | refine wpG_move' ?_
          | refine wpG_assign' ?_
          | refine wpG_val' ?_
          | refine wpG_no' ?_
        refine wpG_end (fun w8 hx8 => wpList_nil (gQ_normal ?_))
        clear q0 q1
        have hxd : (s.extract (k + 2) m).data.toList = d := by
          rw [toList_extract, show k + 2 = k + 1 + 1 from rfl]
          have h2 := congrArg (fun l : List UInt8 => (l.drop 2).take d.length) hl
          simp only [List.drop_drop, List.drop_succ_cons, List.drop_zero, List.take_left'] at h2
          rw [HME.out, show k + 2 + d.length - (k + 1 + 1) = d.length by omega]
          exact h2
        have hxs : (s.extract (k + 2) m).size = d.length := by rw [← len_eq, hxd]
        generalize s.extract (k + 2) m = x at hxd hxs ⊢
        have HX8 := Lib.hid (And.intro (HA7.out.ext hx8) (HG7.out.trans (grown_ext hx8 _)))
        have c1 : ¬ ((x.size : Nat) : Int) < 4 := by omega
        have c2 : ((x.size : Nat) : Int) ≤ 6 := by omega
        have HXD := Lib.hid (And.intro hxd hxs)
        have hvI : ((hexV d : Nat) : Int) ≤ 1114111 := by omega
        clear hxd hxs hx8 b1 b2
        go_wp2_with fail
        refine (c_ParseInt x w8 (by rw [HXD.out.2]; omega) (by rw [HXD.out.2]; omega) (fun c hc => hexP_is (hd c (by rw [← HXD.out.1]; exact hc)))).mono ?_
        rintro e w9 ⟨rfl, hx9⟩
        rw [HXD.out.1]
        have HX9 := Lib.hid (And.intro (HX8.out.1.ext hx9) (HX8.out.2.trans (grown_ext hx9 _)))
        clear hx9
        obtain ⟨v, hvv⟩ : ∃ v, hexV d = v := ⟨_, rfl⟩
        have HVV := Lib.hid hvv
        rw [hvv] at hvI ⊢
        clear hvv
        have hwr : IntKind.i32.wrap ((v : Nat) : Int) = (v : Nat) := wrap_i32 (by omega) (by omega)
        go_wp2_with fail
        exact ret_one rfl rfl rfl ⟨by rw [HVV.out]; rfl, by rw [← HME.out]; exact HX9.out.1, HX9.out.2⟩
end Go.Proofs.YtlmkbldiicbejaaGreatDoor
end
