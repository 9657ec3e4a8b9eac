/-
  Slices of texts: how long they are; all of them, one behind the other.
-/
import Derived.Test.YteokfknkcbmigaaGreatDoorHeldM
import Derived.Test.YteokfknkcbmigaaGreatDoorWhole1
import Derived.Laws.BytesArg
import Derived.Laws.IdiomStrings
namespace Go.Proofs.YteokfknkcbmigaaGreatDoor
open Go.RowKit Go.Rp Go.Shelf Go.Maps Go.Nm

/-- A slice of texts. -/
def StrRow (w : World) (v : Value) (l : List ByteArray) : Prop :=
  ∃ p cap, v = .slice p l.length cap ∧ (l ≠ [] → ∃ b off, p = some ⟨b, off, none⟩ ∧ b < w.heap.size ∧ ∀ i (h : i < l.length), w.cell? ⟨b, off + i, none⟩ = some (.string l[i]))
theorem StrRow.mono {w w' : World} {v : Value} {l : List ByteArray} (hx : Ext w w') (h : StrRow w v l) : StrRow w' v l := by
  obtain ⟨p, cap, rfl, h2⟩ := h
  refine ⟨p, cap, rfl, fun hne => ?_⟩
  obtain ⟨b, off, rfl, hb, hc⟩ := h2 hne
  exact ⟨b, off, rfl, Nat.lt_of_lt_of_le hb hx.sz, fun i hi => hx.cell (hc i hi)⟩
theorem StrRow.form {w : World} {v : Value} {l : List ByteArray} (h : StrRow w v l) : ∃ p cap, v = .slice p l.length cap := by
  obtain ⟨p, cap, rfl, _⟩ := h
  exact ⟨p, cap, rfl⟩

def total : List ByteArray → Nat
  | [] => 0
  | s :: l => s.size + total l
theorem total_append (a b : List ByteArray) : total (a ++ b) = total a + total b := by
  induction a with
  | nil => simp [total]
  | cons s l ih => simp [total, ih]; omega
theorem total_step (l : List ByteArray) (k : Nat) (h : k < l.length) : total (l.take (k + 1)) = total (l.take k) + l[k].size := by
  rw [List.take_succ_eq_append_getElem h, total_append]
  simp [total]
theorem total_le (l : List ByteArray) (m : Nat) (h : ∀ s ∈ l, s.size ≤ m) : total l ≤ m * l.length := by
  induction l with
  | nil => simp [total]
  | cons s l ih =>
    have h1 := h s (by simp)
    have h2 := ih (fun x hx => h x (by simp [hx]))
    simp only [total, List.length_cons, Nat.mul_succ]
    omega
theorem total_take (l : List ByteArray) (k : Nat) : total (l.take k) ≤ total l := by
  have := total_append (l.take k) (l.drop k)
  rw [List.take_append_drop] at this
  omega
set_option maxRecDepth 100000 in
set_option maxHeartbeats 1000000 in
/-- Are texts too many, or too long? -/
theorem c_long (v : Value) (l : List ByteArray) (b : Bool) (w : World) (h : StrRow w v l) (hs : ∀ s ∈ l, s.size ≤ 140737488351232) (hb : b = true ↔ (100 < l.length ∨ 90 < total l)) :
    Calls Tryz.prog 15 #[v] w fun e w' => e = .returned (.bool b) ∧ Ext w w' := by
  obtain ⟨p, cap, rfl, hc⟩ := h
  have HB := Lib.hid hb
  have HC := Lib.hid hc
  have HS := Lib.hid hs
  clear hb hc hs
  go_enter Tryz.func15, Tryz.ntmps15
  go_wp2_with fail
  go_loop [3, 4] (fun x y => ∃ k : Nat, y = .int .i64 (k : Nat) ∧ k ≤ l.length ∧ k ≤ 101 ∧ x = .int .i64 (total (l.take k) : Nat)) (fun _ y => 102 - (intOf y).toNat)
  case atStart => exact ⟨0, rfl, by omega, by omega, rfl⟩
  case round =>
    obtain ⟨k, rfl, h1, h2, rfl⟩ := hrel
    have hle : total (l.take k) ≤ 140737488351232 * 101 := by
      have := total_le (l.take k) 140737488351232 (fun s hs => HS.out s (List.mem_of_mem_take hs))
      rw [List.length_take] at this
      have h3 : 140737488351232 * min k l.length ≤ 140737488351232 * 101 := Nat.mul_le_mul_left _ (by omega)
      omega
    by_cases hlt : k < l.length
    · by_cases h100 : k ≤ 100
      · obtain ⟨b', off, rfl, hb', hcell⟩ := HC.out (by intro e; subst e; simp at hlt)
        have hk := hcell k hlt
        have hz := HS.out l[k] (List.getElem_mem hlt)
        have hst := total_step l k hlt
        have HT := Lib.hid hst
        clear hcell hst
        go_wp2_with fail
        go_round
        case rel => exact ⟨k + 1, by go_num, by omega, by omega, by rw [HT.out]; go_num⟩
        case measure => simp [intOf]; omega
      · have hb2 : b = true := HB.out.2 (.inl (by omega))
        have hl2 : (100 : Int) < (l.length : Nat) := by omega
        subst hb2
        go_wp2_with fail
        go_ret
        exact ⟨rfl, Ext.refl _⟩
    · have hkl : k = l.length := by omega
      have htk : total (l.take k) = total l := by rw [hkl, List.take_length]
      by_cases h100 : 100 < l.length
      · have hb2 : b = true := HB.out.2 (.inl h100)
        have hl2 : (100 : Int) < (l.length : Nat) := by omega
        subst hb2
        clear htk
        go_wp2_with fail
        go_ret
        exact ⟨rfl, Ext.refl _⟩
      · have hl2 : ¬ (100 : Int) < (l.length : Nat) := by omega
        have hbb : decide ((90 : Int) < (total l : Nat)) = b := by
          cases b with
          | true => exact decide_eq_true (by have := (HB.out.1 rfl).resolve_left h100; omega)
          | false => exact decide_eq_false (fun hh => by have := HB.out.2 (.inr (by omega)); cases this)
        have HBB := Lib.hid hbb
        clear hbb
        subst hkl
        rw [List.take_length] at hle htk
        clear htk
        go_wp2_with fail
        go_ret
        refine ⟨?_, Ext.refl _⟩
        rw [← HBB.out]
        first | rfl | (rw [List.take_length]; rfl)

/-- All texts, one behind the other. -/
def glueL (l : List ByteArray) : List UInt8 := l.flatMap fun s => s.data.toList
theorem glueL_step (l : List ByteArray) (k : Nat) (h : k < l.length) : glueL (l.take (k + 1)) = glueL (l.take k) ++ l[k].data.toList := by
  unfold glueL
  rw [List.take_succ_eq_append_getElem h, List.flatMap_append]
  simp
theorem glueL_len (l : List ByteArray) : (glueL l).length = total l := by
  induction l with
  | nil => rfl
  | cons s l ih =>
    show (s.data.toList ++ glueL l).length = _
    rw [List.length_append, len_eq, ih]
    rfl
theorem conv_rowT {W : World} {B : Nat} {v : Value} {F : List UInt8} (h : W.ownsRow B 5 1 v F.length (Lib.byteCells F)) : ∀ w', EOn (fun _ => True) W w' → (convert 38 9 v).run Tryz.prog w' = .ok (.string ⟨F.toArray⟩) w' := fun w' hx => by
  obtain ⟨p, c, rfl⟩ := own_slice h
  by_cases h0 : F = []
  · subst h0
    rcases h.2 with ⟨e, _⟩ | ⟨g, cap', cur, e, _⟩
    · cases e
      exact run_convert_bytes_nil (P := Tryz.prog) w' 38 5 Tryz.underlying38 Tryz.underlying5 _ _ _ Tryz.underlying9
    · cases e
      exact run_convert_bytes_back (P := Tryz.prog) w' 38 9 5 _ _ [] Tryz.underlying38 Tryz.underlying5 Tryz.underlying9 (fun j hj => by cases hj)
  · have hl : 0 < F.length := List.length_pos_iff.2 h0
    obtain ⟨g, rfl, _, _, hg⟩ := own_at h hl
    exact run_convert_bytes_back (P := Tryz.prog) w' 38 9 5 ⟨g, 0, none⟩ c F Tryz.underlying38 Tryz.underlying5 Tryz.underlying9 (fun j hj => by
      have hadd : (⟨g, 0, none⟩ : Addr).add j = ⟨g, j, none⟩ := by unfold Addr.add; split <;> simp_all
      rw [hadd]
      refine hx.cell trivial ((hg j (by omega)).trans ?_)
      simp [Lib.byteCells, List.getElem?_eq_getElem hj])
set_option maxRecDepth 100000 in
set_option maxHeartbeats 4000000 in
theorem c_wholeT (v : Value) (l : List ByteArray) (w : World) (h : StrRow w v l) (ht : total l ≤ 1000000) (hn : l.length ≤ 1000000) :
    Calls Tryz.prog 24 #[v] w fun e w' => e = .returned (.string ⟨(glueL l).toArray⟩) ∧ Ext w w' := by
  obtain ⟨i0, hi0, hz0, hz1, hz3⟩ := info_parts info_u8
  obtain ⟨p, cap, rfl, hc⟩ := h
  have HC := Lib.hid hc
  have HN := Lib.hid (And.intro ht hn)
  have hnI : ((l.length : Nat) : Int) ≤ 1000000 := by omega
  clear hc ht hn
  go_enter Tryz.func24, Tryz.ntmps24
  go_wp2_with fail
  go_loopw [3, 4] (fun bv iv W => ∃ k : Nat, iv = .int .i64 (k : Nat) ∧ k ≤ l.length ∧ W.ownsRow w.heap.size 5 1 bv (glueL (l.take k)).length (Lib.byteCells (glueL (l.take k))) ∧ Ext w W) (fun _ iv _ => l.length + 1 - (intOf iv).toNat)
  case atStart => exact ⟨0, rfl, by omega, World.ownsRow_nil _ _ _ _, Ext.refl _⟩
  case round =>
    obtain ⟨k, rfl, hk, hown, hx⟩ := hrel
    by_cases hlt : k < l.length
    · have hd : decide (k < l.length) = true := decide_eq_true hlt
      have hI : ((k : Nat) : Int) < (l.length : Nat) := by omega
      obtain ⟨b', off, rfl, hb', hcell⟩ := HC.out (by intro e; subst e; simp at hlt)
      have hck := hx.cell (hcell k hlt)
      have HST := Lib.hid (And.intro (glueL_step l k hlt) hlt)
      have HLN := Lib.hid (show (glueL (l.take k)).length + l[k].size ≤ 1000000 by
        have h1 := total_step l k hlt
        have h2 := total_take l (k + 1)
        have h3 := HN.out.1
        rw [glueL_len]
        omega)
      have HX := Lib.hid hx
      have hsz := hx.sz
      clear hcell
      generalize l[k] = s at hck HST HLN
      go_wp2_with (at_builtin; refine Lib.wpList_append_own_string _ rfl _ _ 38 9 rfl w.heap.size 5 i0 Tryz.underlying38 Tryz.underlying9 hi0 hz0 hz1 hz3 _ _ _ rfl hown s rfl ?c3 ?c4 ?c5 ?_)
      case c3 => have := HLN.out; unfold maxLen; omega
      case c4 => have := HLN.out; omega
      case c5 => omega
      intro v' w6 hown6 hgrow6 _
      have hx6 := Below.grown HX.out hgrow6 hsz (fun k e => (hown.lt k e).1)
      have HO6 := Lib.hid (And.intro hown6 hx6)
      clear hown6 hx6 hgrow6 hown hx hsz hck
      go_wp2_with fail
      refine ⟨⟨k + 1, by simp, by have := HST.out.2; omega, ?_, HO6.out.2⟩, by have := HST.out.2; simp [intOf]; omega⟩
      have h6 := HO6.out.1
      rw [HST.out.1, List.length_append, len_eq]
      simpa [Lib.byteCells, Lib.strCells_eq] using h6
    · have hd : decide (k < l.length) = false := decide_eq_false hlt
      have hI : ¬ ((k : Nat) : Int) < (l.length : Nat) := by omega
      obtain rfl : k = l.length := by omega
      have HX := Lib.hid hx
      rw [List.take_length] at hown
      have hcv := conv_rowT hown _ (EOn.refl _ _)
      clear hx hown hk hlt
      go_wp2_with fail
      go_ret
      exact ⟨rfl, HX.out⟩
end Go.Proofs.YteokfknkcbmigaaGreatDoor
