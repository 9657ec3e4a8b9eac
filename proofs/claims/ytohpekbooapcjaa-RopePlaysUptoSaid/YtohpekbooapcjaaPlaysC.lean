/-
  Every list of acts: the walk of RopePlays.
-/
import Derived.Test.YtohpekbooapcjaaPlaysB
namespace Go.Proofs.Ytohpekbooapcjaa
open Go.RowKit Go.Rp

structure ActD where
  K : Int
  A : Int
  B : Int
  F : Int
  G : Int
  S : ByteArray
def ActD.cells (a : ActD) : List Value := [.int .i64 a.K, .int .i64 a.A, .int .i64 a.B, .int .i64 a.F, .int .i64 a.G, .string a.S]
/-- A slice of acts. -/
def ActRow (w : World) (v : Value) (l : List ActD) : Prop :=
  ∃ p cap, v = .slice p l.length cap ∧ (l ≠ [] → ∃ b off, p = some ⟨b, off, none⟩ ∧ b < w.heap.size ∧ ∀ i (h : i < l.length) j, j < 6 → w.cell? ⟨b, off + i * 6 + j, none⟩ = l[i].cells[j]?)
theorem ActRow.mono {w w' : World} {v : Value} {l : List ActD} (hx : Ext w w') (h : ActRow w v l) : ActRow w' v l := by
  obtain ⟨p, cap, rfl, h2⟩ := h
  refine ⟨p, cap, rfl, fun hne => ?_⟩
  obtain ⟨b, off, rfl, hb, hc⟩ := h2 hne
  exact ⟨b, off, rfl, Nat.lt_of_lt_of_le hb hx.sz, fun i hi j hj => (Below.cell hx (p := ⟨b, off + i * 6 + j, none⟩) hb).trans (hc i hi j hj)⟩

def totA : List ActD → Nat
  | [] => 0
  | a :: l => a.S.size + totA l
theorem totA_append (a b : List ActD) : totA (a ++ b) = totA a + totA b := by
  induction a with
  | nil => simp [totA]
  | cons s l ih => simp [totA, ih]; omega
theorem totA_step (l : List ActD) (k : Nat) (h : k < l.length) : totA (l.take (k + 1)) = totA (l.take k) + l[k].S.size := by
  rw [List.take_succ_eq_append_getElem h, totA_append]
  simp [totA]
theorem totA_le (l : List ActD) (m : Nat) (h : ∀ s ∈ l, s.S.size ≤ m) : totA l ≤ m * l.length := by
  induction l with
  | nil => simp [totA]
  | cons s l ih =>
    have h1 := h s (by simp)
    have h2 := ih (fun x hx => h x (by simp [hx]))
    simp only [totA, List.length_cons, Nat.mul_succ]
    omega
theorem totA_mem (l : List ActD) (a : ActD) (h : a ∈ l) : a.S.size ≤ totA l := by
  induction l with
  | nil => simp at h
  | cons x l ih =>
    rcases List.mem_cons.1 h with rfl | h
    · simp [totA]
    · have := ih h
      simp [totA]
      omega

set_option maxRecDepth 100000 in
set_option maxHeartbeats 2000000 in
/-- Is a story too long? -/
theorem c_long (v : Value) (l : List ActD) (b : Bool) (w : World) (h : ActRow w v l) (hs : ∀ a ∈ l, a.S.size ≤ 140737488351232) (hb : b = true ↔ (150 < l.length ∨ 4000 < totA l)) :
    Calls Try.prog 24 #[v] w fun e w' => e = .returned (.bool b) ∧ Ext w w' := by
  obtain ⟨p, cap, rfl, hc⟩ := h
  have HB := Lib.hid hb
  have HC := Lib.hid hc
  have HS := Lib.hid hs
  clear hb hc hs
  go_enter Try.func24, Try.ntmps24
  go_wp2_with fail
  go_loop [3, 4] (fun x y => ∃ k : Nat, y = .int .i64 (k : Nat) ∧ k ≤ l.length ∧ k ≤ 151 ∧ x = .int .i64 (totA (l.take k) : Nat)) (fun _ y => 152 - (intOf y).toNat)
  case atStart => exact ⟨0, rfl, by omega, by omega, rfl⟩
  case round =>
    obtain ⟨k, rfl, h1, h2, rfl⟩ := hrel
    have hle : totA (l.take k) ≤ 140737488351232 * 151 := by
      have := totA_le (l.take k) 140737488351232 (fun s hs => HS.out s (List.mem_of_mem_take hs))
      rw [List.length_take] at this
      have h3 : 140737488351232 * min k l.length ≤ 140737488351232 * 151 := Nat.mul_le_mul_left _ (by omega)
      omega
    by_cases hlt : k < l.length
    · by_cases h200 : k ≤ 150
      · obtain ⟨b', off, rfl, hb', hcell⟩ := HC.out (by intro e; subst e; simp at hlt)
        have hk := hcell k hlt 5 (by omega)
        rw [show l[k].cells[5]? = some (.string l[k].S) from rfl] at hk
        have hz := HS.out l[k] (List.getElem_mem hlt)
        have hst := totA_step l k hlt
        have HT := Lib.hid hst
        clear hcell hst
        go_wp2_with fail
        go_round
        case rel => exact ⟨k + 1, by go_num, by omega, by omega, by rw [HT.out]; go_num⟩
        case measure => simp [intOf]; omega
      · have hb2 : b = true := HB.out.2 (.inl (by omega))
        have hl2 : (150 : Int) < (l.length : Nat) := by omega
        subst hb2
        go_wp2_with fail
        exact ret_one rfl rfl rfl ⟨rfl, Ext.refl _⟩
    · have hkl : k = l.length := by omega
      by_cases h200 : 150 < l.length
      · have hb2 : b = true := HB.out.2 (.inl h200)
        have hl2 : (150 : Int) < (l.length : Nat) := by omega
        subst hb2
        go_wp2_with fail
        exact ret_one rfl rfl rfl ⟨rfl, Ext.refl _⟩
      · have hl2 : ¬ (150 : Int) < (l.length : Nat) := by omega
        have hbb : decide ((4000 : Int) < (totA l : Nat)) = b := by
          cases b with
          | true => exact decide_eq_true (by have := (HB.out.1 rfl).resolve_left h200; omega)
          | false => exact decide_eq_false (fun hh => by have := HB.out.2 (.inr (by omega)); cases this)
        have HBB := Lib.hid hbb
        clear hbb
        subst hkl
        rw [List.take_length] at hle
        go_wp2_with fail
        refine ret_one rfl rfl rfl ⟨?_, Ext.refl _⟩
        rw [← HBB.out]
        first | rfl | (rw [List.take_length]; rfl)

theorem empty_text : (⟨#[]⟩ : ByteArray) = ByteArray.empty := rfl

/-- What a list of acts leaves. -/
def Played (w : World) (e : Ending) (w' : World) : Prop := ∃ p rs ss, e = .returned (.pointer (some ⟨p, 0, none⟩)) ∧ Some w w' p rs ss ∧ ss.length ≤ 301

set_option maxRecDepth 100000 in
set_option maxHeartbeats 4000000 in
/-- A list of acts is played. -/
theorem c_plays (v : Value) (l : List ActD) (w : World) (h : ActRow w v l) (hn : l.length ≤ 150) (hS : ∀ a ∈ l, a.S.size ≤ 4000) :
    Calls Try.prog 25 #[v] w (Played w) := by
  obtain ⟨pv, cap, rfl, hc⟩ := h
  have HC := Lib.hid hc
  have HS := Lib.hid hS
  clear hc hS
  go_enter Try.func25, Try.ntmps25
  go_upto_region 2 with fail
  refine wp_gen (fun W => Stock w W (w.heap.size + 1 + 1) (.slice (some ⟨w.heap.size, 0, none⟩) 1 1) (.slice (some ⟨w.heap.size + 1, 0, none⟩) 1 1) [.pointer none] [⟨#[]⟩]) ?start (fun w1 hw1 => ?_)
  case start =>
    obtain ⟨a1, a2, a3⟩ := alloc3_blk w (.cells #[.pointer none] 23) (.cells #[.string ⟨#[]⟩] 9) (.cells #[.slice (some ⟨w.heap.size, 0, none⟩) 1 1, .slice (some ⟨w.heap.size + 1, 0, none⟩) 1 1] 51)
    refine ⟨(((Ext.refl w).alloc _).alloc _).alloc _, by omega, a3, ⟨rfl, .inr ⟨_, 1, _, rfl, by omega, a1, Nat.le_refl _, by decide, rfl, rfl⟩⟩, ⟨rfl, .inr ⟨_, 1, _, rfl, by omega, a2, Nat.le_refl _, by decide, rfl, rfl⟩⟩, rfl, fun i h1 h2 => ?_, fun s hs => ?_⟩
    · obtain rfl : i = 0 := by simp at h1; omega
      exact ⟨none, .nil, rfl⟩
    · simp at hs
      subst hs
      decide
  obtain ⟨p, hp⟩ : ∃ p, w.heap.size + 1 + 1 = p := ⟨_, rfl⟩
  rw [hp] at hw1 ⊢
  clear hp
  go_wp2_with fail
  go_loopw [4, 5] (fun x y w' => ∃ (k t : Nat) (rs : List Value) (ss : List ByteArray), y = .int .i64 (k : Nat) ∧ k ≤ l.length ∧ x = .int .i64 (t : Nat) ∧ Hid (t ≤ 1300000) ∧ 0 < ss.length ∧ ss.length ≤ 1 + 2 * k ∧ Some w w' p rs ss) (fun _ y _ => 151 - (intOf y).toNat)
  case atStart => exact ⟨0, 0, [.pointer none], [⟨#[]⟩], rfl, by omega, rfl, Nat.zero_le _, by decide, by decide, ⟨_, _, hw1⟩⟩
  case round =>
    clear hw1
    obtain ⟨k, t, rs, ss, rfl, hk, rfl, ht, hs1, hs2, hso⟩ := hrel
    by_cases hgo : k < l.length ∧ (t : Int) < 160000
    · obtain ⟨hlt, ht2⟩ := hgo
      obtain ⟨v1, v2, hst⟩ := hso
      obtain ⟨b', off, rfl, hb', hcell⟩ := HC.out (by intro e; subst e; simp at hlt)
      have hce : ∀ j, j < 6 → wr.cell? ⟨b', off + k * 6 + j, none⟩ = l[k].cells[j]? := fun j hj => (Below.cell hst.ext (p := ⟨b', off + k * 6 + j, none⟩) hb').trans (hcell k hlt j hj)
      have d0 : wr.cell? ⟨b', off + k * 6, none⟩ = some (.int .i64 l[k].K) := hce 0 (by omega)
      have d1 : wr.cell? ⟨b', off + k * 6 + 1, none⟩ = some (.int .i64 l[k].A) := hce 1 (by omega)
      have d2 : wr.cell? ⟨b', off + k * 6 + 2, none⟩ = some (.int .i64 l[k].B) := hce 2 (by omega)
      have d3 : wr.cell? ⟨b', off + k * 6 + 3, none⟩ = some (.int .i64 l[k].F) := hce 3 (by omega)
      have d4 : wr.cell? ⟨b', off + k * 6 + 4, none⟩ = some (.int .i64 l[k].G) := hce 4 (by omega)
      have d5 : wr.cell? ⟨b', off + k * 6 + 5, none⟩ = some (.string l[k].S) := hce 5 (by omega)
      have hz := HS.out l[k] (List.getElem_mem hlt)
      clear hcell hce
      go_wp2_with fail
      refine (c_does w p rs ss _ l[k].K l[k].A l[k].B l[k].F l[k].G l[k].S ⟨_, _, hst⟩ hs1 (by omega) (by omega)).mono ?_
      rintro e w2 ⟨rfl, rs2, ss2, ⟨u1, u2, hst2⟩, hl1, hl2⟩
      clear hst d0 d1 d2 d3 d4 d5
      go_wp2_with fail
      have hp2 : 0 < ss2.length := by omega
      obtain ⟨g2, cap2, rfl⟩ := own_slice hst2.own2 hp2
      have hsub : ((ss2.length : Nat) : Int) - 1 = ((ss2.length - 1 : Nat) : Int) := by omega
      have hlast : ss2.length - 1 < ss2.length := by omega
      have q1 : ∀ w', Ext w2 w' → ∀ i, w'.cell? ⟨p, i, none⟩ = _ := fun w' h i => cell_blk (h.blk hst2.blk) i
      have s1 : (ss2.map Value.string)[ss2.length - 1]? = some (.string ss2[ss2.length - 1]) := by rw [List.getElem?_map, List.getElem?_eq_getElem hlast]; rfl
      have q4 : ∀ w', Ext w2 w' → w'.cell? ⟨g2, ss2.length - 1, none⟩ = some (.string ss2[ss2.length - 1]) := fun w' h => ((ownsRow_ext hst2.own2 h).cellAt (ss2.length - 1) (by omega)).trans s1
      have hz2 := hst2.small _ (List.getElem_mem hlast)
      obtain ⟨x, hx⟩ : ∃ x, ss2[ss2.length - 1] = x := ⟨_, rfl⟩
      rw [hx] at q4 hz2
      have hsmall : IntKind.i64.wrap ((t : Nat) + (x.size : Nat) : Int) = (t : Nat) + (x.size : Nat) := IntWalk.i64_in _ (by omega)
      have HST := Lib.hid hst2
      have HT := Lib.hid (show t + x.size ≤ 1300000 by omega)
      clear s1 hx hst2 hz2 ht2
      refine wp_lex [true, true, true, true, true, true, true, true, true, true, true, true, true, true, true, true] (by kernel_rfl) (by kernel_rfl) ?_
      repeat first
        | refine wpG_move (by rfl) (by simp only [Act.eval, Array.getD_eq_getD_getElem?, List.getElem?_toArray, List.getElem?_cons_succ, List.getElem?_cons_zero, Option.getD_some]; try rfl) (by simp only [Act.put, List.setIfInBounds_toArray, List.set_cons_succ, List.set_cons_zero]; rfl) ?_
        | refine wpG_assign (by rfl) (by simp only [Act.eval, Array.getD_eq_getD_getElem?, List.getElem?_toArray, List.getElem?_cons_succ, List.getElem?_cons_zero, Option.getD_some]; try rfl) (by simp only [Act.put, List.setIfInBounds_toArray, List.set_cons_succ, List.set_cons_zero]; rfl) ?_
        | refine wpG_val (by rfl) (fun w' hx => (by go_simp; first | (go_bits; first | exact rfl | exact ⟨by omega, rfl⟩) | exact rfl | exact (if_neg (by omega)).trans rfl | exact ⟨by omega, rfl⟩)) (by simp only [Act.put, List.setIfInBounds_toArray, List.set_cons_succ, List.set_cons_zero]; rfl) ?_
        | refine wpG_no (by rfl) (by simp only [Act.put, List.setIfInBounds_toArray, List.set_cons_succ, List.set_cons_zero]; rfl) ?_
      refine wpG_end (fun w3 hx3 => wpList_nil (gQ_normal ?_))
      go_wp2_with fail
      go_roundw
      case rel => exact ⟨k + 1, t + x.size, rs2, ss2, by go_num, by omega, by go_num, HT.out, hp2, by omega, ⟨_, _, HST.out.mono hx3⟩⟩
      case measure => simp [intOf]; omega
    · by_cases hlt : k < l.length
      · have ht3 : ¬ (t : Int) < 160000 := fun h => hgo ⟨hlt, h⟩
        clear hgo
        go_wp2_with fail
        exact ret_one rfl rfl rfl ⟨p, rs, ss, rfl, hso, by omega⟩
      · clear hgo
        go_wp2_with fail
        exact ret_one rfl rfl rfl ⟨p, rs, ss, rfl, hso, by omega⟩

set_option maxRecDepth 100000 in
set_option maxHeartbeats 8000000 in
theorem c_Plays (v : Value) (l : List ActD) (w : World) (h : ActRow w v l) (hs : ∀ a ∈ l, a.S.size ≤ 140737488351232) :
    Calls Try.prog 6 #[v] w fun e w' => e = .returned (.bool true) ∧ Ext w w' := by
  have hX := Ext.refl w
  by_cases hw : 150 < l.length ∨ 4000 < totA l
  · have HW := Lib.hid hw
    clear hw
    go_enter Try.func6, Try.ntmps6
    go_wp2_with fail
    refine (c_long v l true _ h hs ⟨fun _ => HW.out, fun _ => rfl⟩).mono ?_
    rintro e u1 ⟨rfl, hx⟩
    replace hX := hX.trans hx
    clear hx
    go_wp2_with fail
    refine (c_live _).mono ?_
    rintro e u2 ⟨rfl, hx⟩
    replace hX := hX.trans hx
    clear hx
    go_wp2_with fail
    exact ret_one rfl rfl rfl ⟨rfl, hX⟩
  have hw1 : l.length ≤ 150 := by omega
  have hw2 : ∀ a ∈ l, a.S.size ≤ 4000 := fun a ha => by have := totA_mem l a ha; omega
  have HW := Lib.hid hw
  have HS := Lib.hid hw2
  clear hw hw2
  go_enter Try.func6, Try.ntmps6
  go_wp2_with fail
  refine (c_long v l false _ h hs ⟨fun h => (by cases h), fun h => absurd h HW.out⟩).mono ?_
  rintro e u3 ⟨rfl, hx⟩
  replace hX := hX.trans hx
  replace h := h.mono hx
  clear hx
  go_wp2_with fail
  refine (c_plays v l _ h hw1 HS.out).mono ?_
  rintro e w1 ⟨p, rs, ss, rfl, ⟨v1, v2, hst⟩, hss⟩
  have hX1 := hX.trans hst.ext
  go_wp2_with fail
  refine (c_live _).mono ?_
  rintro e w2 ⟨rfl, hx2⟩
  replace hst := hst.mono hx2
  have hX2 := hX1.trans hx2
  clear hX hX1 hx2
  have hlen := hst.len
  have HLEN := Lib.hid hlen
  have hrs : rs.length ≤ 301 := by omega
  clear hlen
  go_wp2_with fail
  go_loopw [4] (fun x w' => ∃ k : Nat, x = .int .i64 (k : Nat) ∧ k ≤ rs.length ∧ Ext w2 w') (fun x _ => rs.length - (intOf x).toNat)
  case atStart => exact ⟨0, rfl, by omega, Ext.refl _⟩
  case round =>
    obtain ⟨k, rfl, hk, hx3⟩ := hrel
    have hst3 := hst.mono hx3
    have hsl : ∃ a cap, v1 = .slice a rs.length cap := by
      rcases hst3.own1.2 with ⟨h1, h2⟩ | ⟨g, cap, _, h1, _⟩
      · exact ⟨none, 0, by rw [h1, h2]⟩
      · exact ⟨_, cap, h1⟩
    obtain ⟨a1, cap1, rfl⟩ := hsl
    have hc := cell_blk hst3.blk
    by_cases hlt : k < rs.length
    · have hg : ∃ g, a1 = some ⟨g, 0, none⟩ := by
        rcases hst3.own1.2 with ⟨_, h2⟩ | ⟨g, cap', _, h1, _⟩
        · omega
        · exact ⟨g, by injection h1⟩
      obtain ⟨g1, rfl⟩ := hg
      have hlt2 : k < ss.length := by have := HLEN.out; omega
      have hltI : (k : Int) < (ss.length : Nat) := by omega
      obtain ⟨g2, cap2, rfl⟩ := own_slice hst3.own2 (show 0 < ss.length by omega)
      obtain ⟨o, ho, eo⟩ := hst3.all k hlt hlt2
      obtain ⟨pr, hpr⟩ := ho.ptr
      have zo := hst3.small ss[k] (List.getElem_mem hlt2)
      rw [← eo] at zo
      have r1 : rs[k]? = some (.pointer pr) := by rw [List.getElem?_eq_getElem hlt, hpr]
      have s1 : (ss.map Value.string)[k]? = some (.string (txt o)) := by rw [List.getElem?_map, List.getElem?_eq_getElem hlt2, eo]; rfl
      rw [hpr] at ho
      have q1 : ∀ w', Ext wr w' → ∀ i, w'.cell? ⟨p, i, none⟩ = _ := fun w' h i => cell_blk (h.blk hst3.blk) i
      have q3 : ∀ w', Ext wr w' → w'.cell? ⟨g1, k, none⟩ = some (.pointer pr) := fun w' h => ((ownsRow_ext hst3.own1 h).cellAt k (by omega)).trans r1
      have q4 : ∀ w', Ext wr w' → w'.cell? ⟨g2, k, none⟩ = some (.string (txt o)) := fun w' h => ((ownsRow_ext hst3.own2 h).cellAt k (by omega)).trans s1
      have cT : ∀ w', Ext wr w' → Calls Try.prog 26 #[.pointer pr, .string (txt o)] w' fun e w'' => e = .returned (.bool true) ∧ Ext w' w'' := fun w' h => c_tells _ o (txt o) w' (ho.mono h) rfl zo
      have CT := Lib.hid cT
      clear cT r1 s1 eo hpr ho
      go_wp2_with fail
      clear hc
      refine wp_lex [true, true, true, true, true, true, true, true, true, true, true, true, true, true, true, true] (by kernel_rfl) (by kernel_rfl) ?_
      repeat first
        | refine wpG_move (by rfl) (by simp only [Act.eval, Array.getD_eq_getD_getElem?, List.getElem?_toArray, List.getElem?_cons_succ, List.getElem?_cons_zero, Option.getD_some]; try rfl) (by simp only [Act.put, List.setIfInBounds_toArray, List.set_cons_succ, List.set_cons_zero]; rfl) ?_
        | refine wpG_assign (by rfl) (by simp only [Act.eval, Array.getD_eq_getD_getElem?, List.getElem?_toArray, List.getElem?_cons_succ, List.getElem?_cons_zero, Option.getD_some]; try rfl) (by simp only [Act.put, List.setIfInBounds_toArray, List.set_cons_succ, List.set_cons_zero]; rfl) ?_
        | refine wpG_call (by rfl) (fun w' hx => (by go_simp; first | exact rfl | exact ⟨rfl, rfl⟩)) (fun w' hx => (by first | exact CT.out w' hx)) (by simp only [Act.put, List.setIfInBounds_toArray, List.set_cons_succ, List.set_cons_zero]; rfl) ?_
        | refine wpG_val (by rfl) (fun w' hx => (by go_simp; first | (go_bits; first | exact rfl | exact ⟨by omega, rfl⟩) | exact rfl | exact (if_neg (by omega)).trans rfl | exact ⟨by omega, rfl⟩)) (by simp only [Act.put, List.setIfInBounds_toArray, List.set_cons_succ, List.set_cons_zero]; rfl) ?_
        | refine wpG_no (by rfl) (by simp only [Act.put, List.setIfInBounds_toArray, List.set_cons_succ, List.set_cons_zero]; rfl) ?_
      refine wpG_end (fun w4 hx4 => wpList_nil (gQ_normal ?_))
      go_wp2_with fail
      go_roundw
      case rel => exact ⟨k + 1, by go_num, by omega, hx3.trans hx4⟩
      case measure => simp [intOf]; omega
    · go_wp2_with fail
      exact ret_one rfl rfl rfl ⟨rfl, hX2.trans hx3⟩
end Go.Proofs.Ytohpekbooapcjaa
