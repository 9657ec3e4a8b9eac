/-
  The column behind a text; how much of it fits.
-/
import Derived.Test.YtlmkbldiicbejaaGreatDoorWaD
namespace Go.Proofs.YtlmkbldiicbejaaGreatDoor
open Go.RowKit Go.Rp Go.Maps Go.Cl Go.Shelf Go.Gr

/-- A row of places, cell by cell. -/
def PlRow (w : World) (v : Value) (l : List Plc) : Prop :=
  ∃ p cap, v = .slice p l.length cap ∧ l.length ≤ cap ∧ (l ≠ [] → ∃ g, p = some ⟨g, 0, none⟩ ∧ ∀ i (h : i < l.length), w.cell? ⟨g, i * 4, none⟩ = some (.int .i64 (l[i].f : Nat)) ∧ w.cell? ⟨g, i * 4 + 1, none⟩ = some (.int .i64 (l[i].t : Nat)) ∧ w.cell? ⟨g, i * 4 + 2, none⟩ = some (.int .i64 (l[i].a : Nat)) ∧ w.cell? ⟨g, i * 4 + 3, none⟩ = some (.int .i64 (l[i].b : Nat)))
theorem PlRow.ext {w w' : World} {v : Value} {l : List Plc} (h : PlRow w v l) (hx : Ext w w') : PlRow w' v l := by
  obtain ⟨p, cap, rfl, hc, h2⟩ := h
  refine ⟨p, cap, rfl, hc, fun hne => ?_⟩
  obtain ⟨g, rfl, h3⟩ := h2 hne
  exact ⟨g, rfl, fun i hi => ⟨hx.cell (h3 i hi).1, hx.cell (h3 i hi).2.1, hx.cell (h3 i hi).2.2.1, hx.cell (h3 i hi).2.2.2⟩⟩
theorem plcW_get : ∀ (l : List Plc) (i : Nat) (h : i < l.length), (plcW l)[i * 4]? = some (.int .i64 (l[i].f : Nat)) ∧ (plcW l)[i * 4 + 1]? = some (.int .i64 (l[i].t : Nat)) ∧ (plcW l)[i * 4 + 2]? = some (.int .i64 (l[i].a : Nat)) ∧ (plcW l)[i * 4 + 3]? = some (.int .i64 (l[i].b : Nat))
  | [], i, h => by simp at h
  | x :: l, 0, _ => by simp [plcW]
  | x :: l, i + 1, h => by
    obtain ⟨h1, h2, h3, h4⟩ := plcW_get l i (by simpa using h)
    have e : plcW (x :: l) = [.int .i64 (x.f : Nat), .int .i64 (x.t : Nat), .int .i64 (x.a : Nat), .int .i64 (x.b : Nat)] ++ plcW l := by simp [plcW]
    rw [e]
    refine ⟨?_, ?_, ?_, ?_⟩
    · rw [show (i + 1) * 4 = i * 4 + 4 by omega, List.getElem?_append_right (by simp)]; simpa using h1
    · rw [show (i + 1) * 4 + 1 = i * 4 + 1 + 4 by omega, List.getElem?_append_right (by simp)]; simpa using h2
    · rw [show (i + 1) * 4 + 2 = i * 4 + 2 + 4 by omega, List.getElem?_append_right (by simp)]; simpa using h3
    · rw [show (i + 1) * 4 + 3 = i * 4 + 3 + 4 by omega, List.getElem?_append_right (by simp)]; simpa using h4
theorem PlRow.of_own {w : World} {B : Nat} {v : Value} {l : List Plc} (h : w.ownsRow B 118 4 v l.length (plcW l)) : PlRow w v l := by
  obtain ⟨p, cap, rfl⟩ := own_slice h
  refine ⟨p, cap, rfl, own_cap h, fun hne => ?_⟩
  obtain ⟨g, rfl, _, _, hc⟩ := own_at h (List.length_pos_iff.2 hne)
  refine ⟨g, rfl, fun i hi => ?_⟩
  obtain ⟨h1, h2, h3, h4⟩ := plcW_get l i hi
  exact ⟨(hc _ (by omega)).trans h1, (hc _ (by omega)).trans h2, (hc _ (by omega)).trans h3, (hc _ (by omega)).trans h4⟩
/-- The places of a text. -/
noncomputable def plcs (a t st : Nat) (s : ByteArray) : List Plc := plcS a t s st (pairsOf (bdG s))
theorem plcs_len (a t st : Nat) (s : ByteArray) : (plcs a t st s).length = (pairsOf (bdG s)).length := plcS_len ..
theorem plcs_le (a t st : Nat) (s : ByteArray) : (plcs a t st s).length ≤ s.size + 1 := by
  rw [plcs_len, pairsOf_length]
  have := bdG_len s
  omega
theorem c_placesP (bk a t st : Nat) (s : ByteArray) (w : World) (h : BookIs w bk a t st) (ha : a ≤ 2) (ht : 1 ≤ t) (ht2 : t ≤ 64) (hst : st ≤ 1080000000) (hT : TabsW w) (hz : s.size ≤ 65536) :
    Calls Tryz.prog 61 #[.pointer (some ⟨bk, 0, none⟩), .string s] w fun e w' => ∃ v, e = .returned v ∧ PlRow w' v (plcs a t st s) ∧ Ext w w' := by
  refine (c_places bk a t st s w h ha ht ht2 hst hT hz).mono ?_
  rintro e w' ⟨v, rfl, h1, h2⟩
  refine ⟨v, rfl, PlRow.of_own (B := w.heap.size) ?_, h2⟩
  rw [plcs_len]
  exact h1
theorem plcS_get (a t : Nat) (s : ByteArray) : ∀ (ps : List (Nat × Nat)) (col i : Nat) (h : i < ps.length) (h' : i < (plcS a t s col ps).length), (plcS a t s col ps)[i] = ⟨ps[i].1, ps[i].2, colS a t s col (ps.take i), colS a t s col (ps.take (i + 1))⟩
  | [], col, i, h, _ => by simp at h
  | p :: ps, col, 0, _, _ => by simp [plcS, colS]
  | p :: ps, col, i + 1, h, h' => by
    have := plcS_get a t s ps (bhK a t col (subS s p)) i (by simpa using h) (by rw [plcS_len]; simpa using h)
    simp only [plcS, List.getElem_cons_succ, this, List.take_succ_cons]
    rfl
/-- The column behind a text. -/
noncomputable def txtK (a t st : Nat) (s : ByteArray) : Nat := colS a t s st (pairsOf (bdG s))
theorem plcs_last (a t st : Nat) (s : ByteArray) (i : Nat) (h : i < (plcs a t st s).length) (hi : i + 1 = (plcs a t st s).length) : (plcs a t st s)[i].b = txtK a t st s := by
  have hl := plcs_len a t st s
  have := plcS_get a t s (pairsOf (bdG s)) st i (by omega) h
  have h2 : (plcs a t st s)[i] = _ := this
  rw [h2]
  simp only
  unfold txtK
  rw [List.take_of_length_le (by omega)]
theorem plcs_none (a t st : Nat) (s : ByteArray) (h : (plcs a t st s).length = 0) : txtK a t st s = st := by
  rw [plcs_len] at h
  unfold txtK
  rw [List.length_eq_zero_iff.1 h]
  rfl
theorem CellOk.nat {a t st : Nat} (h : CellOk a t st) : 1 ≤ a ∧ a ≤ 2 ∧ 1 ≤ t ∧ t ≤ 64 ∧ st ≤ 1073741824 := by
  unfold CellOk at h
  omega
/-- A book may stand at a column further on. -/
def BookOk (a t st : Nat) : Prop := 1 ≤ a ∧ a ≤ 2 ∧ 1 ≤ t ∧ t ≤ 64 ∧ st ≤ 1080000000
theorem CellOk.book {a t st : Nat} (h : CellOk a t st) : BookOk a t st := by
  have := h.nat
  unfold BookOk
  omega
theorem txtK_le (a t st : Nat) (s : ByteArray) (ho : CellOk a t st) (hz : s.size ≤ 65536) : txtK a t st s ≤ 1080000000 := by
  obtain ⟨h1, h2, h3, h4, h5⟩ := ho.nat
  have := colS_le a t s h2 (pairsOf (bdG s)) st
  have h6 := plcs_le a t st s
  rw [plcs_len] at h6
  have h7 : (t + 2) * (pairsOf (bdG s)).length ≤ 66 * (pairsOf (bdG s)).length := Nat.mul_le_mul_right _ (by omega)
  unfold txtK
  omega
set_option maxRecDepth 100000 in
set_option maxHeartbeats 4000000 in
theorem c_wText (a t st : Nat) (s : ByteArray) (w : World) (ho : CellOk a t st) (hT : TabsW w) (hz : s.size ≤ 65536) :
    Calls Tryz.prog 49 #[.string s, .agg #[.int .i64 (a : Nat), .int .i64 (t : Nat), .int .i64 (st : Nat)]] w fun e w' => e = .returned (.int .i64 (txtK a t st s : Nat)) ∧ Ext w w' := by
  obtain ⟨h1, h2, h3, h4, h5⟩ := ho.nat
  have HT := Lib.hid hT
  have hpl := plcs_le a t st s
  have HL := Lib.hid (plcs_last a t st s)
  have HN := Lib.hid (plcs_none a t st s)
  obtain ⟨tx, htx⟩ : ∃ x, txtK a t st s = x := ⟨_, rfl⟩
  rw [htx] at HL HN ⊢
  clear htx
  go_enter Tryz.func49, Tryz.ntmps49
  go_wp2_with fail
  have hbo := World.alloc_heap_new w (.cells #[.int .i64 (a : Nat), .int .i64 (t : Nat), .int .i64 (st : Nat)] 48)
  have hxo := (Ext.refl w).alloc (.cells #[.int .i64 (a : Nat), .int .i64 (t : Nat), .int .i64 (st : Nat)] 48)
  generalize w.alloc (.cells #[.int .i64 (a : Nat), .int .i64 (t : Nat), .int .i64 (st : Nat)] 48) = wo at hbo hxo ⊢
  generalize w.heap.size = ob at hbo ⊢
  refine (c_wCheck (a : Nat) (t : Nat) (st : Nat) _).mono ?_
  rintro e w1 ⟨rfl, hx1⟩
  rw [if_pos ho]
  have HBO := Lib.hid (hx1.blk hbo)
  have HX1 := Lib.hid (hxo.trans hx1)
  have o0 := (cell_blk HBO.out 0).trans rfl
  have o1 : w1.cell? ⟨ob, 1, none⟩ = some (.int .i64 (t : Nat)) := (cell_blk HBO.out 1).trans rfl
  have o2 : w1.cell? ⟨ob, 2, none⟩ = some (.int .i64 (st : Nat)) := (cell_blk HBO.out 2).trans rfl
  clear hbo hxo hx1
  go_wp2_with fail
  refine (c_wopen (a : Nat) (t : Nat) (st : Nat) w1 (HT.out.ext HX1.out)).mono ?_
  rintro e w2 ⟨bk, rfl, hbk, hx2⟩
  have HBK := Lib.hid hbk
  have HX2 := Lib.hid (HX1.out.trans hx2)
  have p2 := hx2.cell o2
  clear hbk hx2 o0 o1 o2
  go_wp2_with fail
  refine (c_placesP bk a t st s w2 HBK.out h2 h3 h4 (by omega) (HT.out.ext HX2.out) hz).mono ?_
  rintro e w3 ⟨v, rfl, hrow, hx3⟩
  have HROW := Lib.hid hrow
  have HX3 := Lib.hid (HX2.out.trans hx3)
  have q2 := hx3.cell p2
  clear hrow hx3 p2
  generalize plcs a t st s = P at hpl HL HN HROW
  obtain ⟨p, cap, rfl, hcap, hcc⟩ := HROW.out
  have hPI : ((P.length : Nat) : Int) ≤ 65537 := by omega
  by_cases h0 : P.length = 0
  · have HN0 := Lib.hid (HN.out h0)
    have h0I : ((P.length : Nat) : Int) = 0 := by omega
    have h0J : (((P.length : Nat) : Int) == 0) = true := by simp [h0]
    clear h0 hcc
    go_wp2_with fail
    exact ret_one rfl rfl rfl ⟨by rw [HN0.out]; rfl, HX3.out⟩
  · have h0I : ¬ ((P.length : Nat) : Int) = 0 := by omega
    have h0J : (((P.length : Nat) : Int) == 0) = false := by simp [h0]
    obtain ⟨g, rfl, h6⟩ := hcc (fun e => h0 (by rw [e]; rfl))
    obtain ⟨n, hn⟩ : ∃ n, P.length = n + 1 := ⟨P.length - 1, by omega⟩
    have e3 := (h6 n (by omega)).2.2.2
    rw [HL.out n (by omega) (by omega)] at e3
    clear HROW HN HL
    have hnI : ((n : Nat) : Int) ≤ 65537 := by omega
    have hz1 : (((n : Nat) : Int) + 1 == 0) = false := by simp; omega
    have hz2 : ¬ ((n : Nat) : Int) + 1 = 0 := by omega
    rw [hn] at hcap ⊢
    clear hn hpl hPI h0I h0J
    clear h6 h0 hcc
    go_wp2_with fail
    exact ret_one rfl rfl rfl ⟨rfl, HX3.out⟩
/-- Does a letter still fit? -/
noncomputable def fitB (s : ByteArray) (cells : Int) (p : Plc) : Bool := !(enT (subS s (p.f, p.t)) || decide (cells < (p.b : Nat)))
/-- The letters that fit. -/
noncomputable def fitK (a t st : Nat) (s : ByteArray) (cells : Int) : List Plc := (plcs a t st s).takeWhile (fitB s cells)
theorem plcs_ok (a t st : Nat) (s : ByteArray) (i : Nat) (h : i < (plcs a t st s).length) : (plcs a t st s)[i].f < (plcs a t st s)[i].t ∧ (plcs a t st s)[i].t ≤ s.size := by
  have hl := plcs_len a t st s
  have := plcS_get a t s (pairsOf (bdG s)) st i (by omega) h
  have h2 : (plcs a t st s)[i] = _ := this
  rw [h2]
  exact pairs_ok s _ (List.getElem_mem (by omega))
theorem plcs_col (a t st : Nat) (s : ByteArray) (ho : BookOk a t st) (hz : s.size ≤ 65536) (i : Nat) (h : i < (plcs a t st s).length) : (plcs a t st s)[i].a ≤ 1090000000 ∧ (plcs a t st s)[i].b ≤ 1090000000 := by
  obtain ⟨h1, h2, h3, h4, h5⟩ := ho
  have hl := plcs_len a t st s
  have hl2 := plcs_le a t st s
  have := plcS_get a t s (pairsOf (bdG s)) st i (by omega) h
  have h6 : (plcs a t st s)[i] = _ := this
  rw [h6]
  have key : ∀ k, colS a t s st ((pairsOf (bdG s)).take k) ≤ 1090000000 := fun k => by
    have := colS_le a t s h2 ((pairsOf (bdG s)).take k) st
    have h7 : ((pairsOf (bdG s)).take k).length ≤ (pairsOf (bdG s)).length := by rw [List.length_take]; omega
    have h8 : (t + 2) * ((pairsOf (bdG s)).take k).length ≤ 66 * ((pairsOf (bdG s)).take k).length := Nat.mul_le_mul_right _ (by omega)
    omega
  exact ⟨key i, key (i + 1)⟩
theorem takeWhile_at {α : Type} (f : α → Bool) : ∀ (l : List α) (i : Nat), i ≤ l.length → (∀ j (h : j < l.length), j < i → f l[j] = true) → (∀ h : i < l.length, f l[i] = false) → l.takeWhile f = l.take i
  | [], i, hi, _, _ => by simp
  | x :: l, 0, _, _, h2 => by
    have := h2 (by simp)
    simp only [List.getElem_cons_zero] at this
    simp [this]
  | x :: l, i + 1, hi, h1, h2 => by
    have h0 := h1 0 (by simp) (by omega)
    simp only [List.getElem_cons_zero] at h0
    rw [List.takeWhile_cons, h0, List.take_succ_cons, takeWhile_at f l i (by simpa using hi) (fun j h hj => by
      have := h1 (j + 1) (by simpa using h) (by omega)
      simpa using this) (fun h => by
      have := h2 (by simpa using h)
      simpa using this)]
    rfl
theorem PlRow.take {w : World} {p : Option Addr} {cap : Nat} {l : List Plc} (h : PlRow w (.slice p l.length cap) l) {i : Nat} (hi : i ≤ l.length) : PlRow w (.slice p i cap) (l.take i) := by
  obtain ⟨p', cap', e, hc, h2⟩ := h
  obtain ⟨rfl, -, rfl⟩ := Value.slice.inj e
  have hl : (l.take i).length = i := by rw [List.length_take]; omega
  refine ⟨p, cap, by rw [hl], by omega, fun hne => ?_⟩
  obtain ⟨g, rfl, h3⟩ := h2 (fun e => hne (by rw [e]; simp))
  refine ⟨g, rfl, fun j hj => ?_⟩
  have := h3 j (by omega)
  simpa using this
end Go.Proofs.YtlmkbldiicbejaaGreatDoor
