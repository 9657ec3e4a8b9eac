/-
 The elements of a text.
-/
import Derived.Test.YtokeamebcdhnpaaGreatDoorColB
import Derived.Scope
import Derived.Control
import Derived.Laws.AppendOwnNone
namespace Go.Proofs.YtokeamebcdhnpaaGreatDoor
open Go.RowKit Go.Rp Go.Shelf Go.Maps Go.Cl

attribute [local go_sem] run_makeMap
theorem lookBk_at {B : Book} (hnd : (B.map (·.1)).Nodup) {i : Nat} (hi : i < B.length) : lookBk B B[i].1 = some B[i].2 := by
 cases h : lookBk B B[i].1 with
 | none =>
  exfalso
  unfold lookBk at h
  rw [Option.map_eq_none_iff, List.find?_eq_none] at h
  exact h B[i] (List.getElem_mem hi) (by simp)
 | some e =>
  obtain ⟨p, hp, rfl, hk⟩ := lookBk_mem h
  obtain ⟨j, hj, rfl⟩ := List.mem_iff_getElem.1 hp
  have hij : j = i := by
   rcases Nat.lt_trichotomy j i with h1 | h1 | h1
   ·exact absurd (by rw [List.getElem_map, List.getElem_map]; exact hk) (List.pairwise_iff_getElem.1 hnd j i (by simpa using hj) (by simpa using hi) h1)
   ·exact h1
   ·exact absurd (by rw [List.getElem_map, List.getElem_map]; exact hk.symm) (List.pairwise_iff_getElem.1 hnd i j (by simpa using hi) (by simpa using hj) h1)
  subst hij
  rfl
theorem lookBk_no {B : Book} {k : List UInt8} (h : ∀ p ∈ B, p.1 ≠ k) : lookBk B k = none := by
 unfold lookBk
 rw [Option.map_eq_none_iff, List.find?_eq_none]
 intro p hp
 simpa using h p hp
/-- A look-up in the book. -/
theorem BMap.look {n : Nat} {W : World} {m : Nat} {kv : List (Value × Value)} {B : Book} (h : BMap n W m kv B) (hnd : (B.map (·.1)).Nodup) (hE : ∀ e ∈ B, e.1.length ≤ 100000) {k : List UInt8} (hk : k.length ≤ 100000) :
  ∃ v b, (Instr.lookup 80 (.map (some m)) (.string ⟨k.toArray⟩) true).run Tryz.prog W = .ok (.tuple #[v, .bool b]) W ∧ ((b = true ∧ ∃ e, lookBk B k = some e ∧ W.ownsRow n 59 3 v e.length (elW e)) ∨ (b = false ∧ lookBk B k = none)) := by
 have hkey : keyOf Tryz.prog 9 (.string ⟨k.toArray⟩) = some (.string k.toArray.toList) := Go.WideMaps.keyOf_string_mk Tryz.underlying9 (by show k.toArray.size ≤ _; rw [List.size_toArray]; unfold maxLen; omega)
 obtain ⟨v, b, hr, hc⟩ := h.1.look (string_keyed Tryz.underlying9) Tryz.underlying80 (h.keys hE) hkey (fun W => Tryz.zeroValue28 W) true
 refine ⟨v, b, hr, ?_⟩
 rcases hc with ⟨rfl, hm⟩ | ⟨rfl, _, hm⟩
 ·obtain ⟨i, hi, e⟩ := List.mem_iff_getElem.1 hm
  have hi' : i < B.length := by rw [← h.2.1]; exact hi
  obtain ⟨u, e2, hu⟩ := h.2.2 i hi hi'
  rw [e] at e2
  obtain ⟨e3, rfl⟩ := Prod.mk.inj e2
  have e4 := str_inj e3
  subst e4
  exact .inl ⟨rfl, _, lookBk_at hnd hi', hu⟩
 ·refine .inr ⟨rfl, lookBk_no fun p hp e => ?_⟩
  obtain ⟨i, hi, rfl⟩ := List.mem_iff_getElem.1 hp
  have hi' : i < kv.length := by rw [h.2.1]; exact hi
  obtain ⟨u, e2, hu⟩ := h.2.2 i hi' hi
  exact hm _ (List.getElem_mem hi') (by rw [e2, e])
theorem elemsGo_fuel (B : Book) (most : Nat) : ∀ k t, t.length ≤ k → elemsGo B most k t = elems B most t := by
 have key : ∀ n k t, t.length ≤ n → t.length ≤ k → elemsGo B most k t = elemsGo B most n t := by
  intro n
  induction n with
  | zero =>
   intro k t h _
   obtain rfl : t = [] := List.length_eq_zero_iff.1 (by omega)
   cases k with
   | zero => rfl
   | succ k => simp [elemsGo]
  | succ n ih =>
   intro k t h hk
   by_cases ht : t = []
   ·subst ht
    cases k with
    | zero => simp [elemsGo]
    | succ k => simp [elemsGo]
   ·have hl : 0 < t.length := List.length_pos_iff.2 ht
    cases k with
    | zero => omega
    | succ k =>
     unfold elemsGo
     rw [if_neg ht, if_neg ht]
     cases hg : longest B t (min most t.length) with
     | some q =>
      obtain ⟨m, e⟩ := q
      have h1 := (longest_some hg).1
      show e ++ _ = e ++ _
      rw [ih k (t.drop m) (by rw [List.length_drop]; omega) (by rw [List.length_drop]; omega)]
     | none =>
      have h1 : 1 ≤ (dec t).2 := wid_pos t
      show _ :: _ = _ :: _
      rw [ih k (t.drop (dec t).2) (by rw [List.length_drop]; omega) (by rw [List.length_drop]; omega)]
 intro k t h
 exact key t.length k t (Nat.le_refl _) h
theorem elems_some {B : Book} {most : Nat} {t : List UInt8} {n : Nat} {e : List El} (ht : t ≠ []) (h : longest B t (min most t.length) = some (n, e)) : elems B most t = e ++ elems B most (t.drop n) := by
 have hl : 0 < t.length := List.length_pos_iff.2 ht
 rw [← elemsGo_fuel B most (t.length + 1) t (by omega), ← elemsGo_fuel B most t.length (t.drop n) (by rw [List.length_drop]; omega), elemsGo, if_neg ht, h]
theorem elems_none {B : Book} {most : Nat} {t : List UInt8} (ht : t ≠ []) (h : longest B t (min most t.length) = none) : elems B most t = plainE t :: elems B most (t.drop (dec t).2) := by
 have hl : 0 < t.length := List.length_pos_iff.2 ht
 rw [← elemsGo_fuel B most (t.length + 1) t (by omega), ← elemsGo_fuel B most t.length (t.drop (dec t).2) (by rw [List.length_drop]; omega), elemsGo, if_neg ht, h]
theorem elems_nil (B : Book) (most : Nat) : elems B most [] = [] := rfl
theorem elems_len {B : Book} {most : Nat} (hB : ∀ p ∈ B, p.2.length ≤ 1000) : ∀ n t, t.length ≤ n → (elems B most t).length ≤ 1000 * t.length := by
 intro n
 induction n with
 | zero =>
  intro t h
  obtain rfl : t = [] := List.length_eq_zero_iff.1 (by omega)
  simp [elems_nil]
 | succ n ih =>
  intro t h
  by_cases ht : t = []
  ·subst ht
   simp [elems_nil]
  ·have hl : 0 < t.length := List.length_pos_iff.2 ht
   cases hg : longest B t (min most t.length) with
   | some q =>
    obtain ⟨m, e⟩ := q
    obtain ⟨h1, h2, h3⟩ := longest_some hg
    obtain ⟨p, hp, rfl, _⟩ := lookBk_mem h3
    have h4 := hB p hp
    have h5 := ih (t.drop m) (by rw [List.length_drop]; omega)
    rw [List.length_drop] at h5
    rw [elems_some ht hg, List.length_append]
    omega
   | none =>
    have h1 : 1 ≤ (dec t).2 := wid_pos t
    have h5 := ih (t.drop (dec t).2) (by rw [List.length_drop]; omega)
    rw [List.length_drop] at h5
    rw [elems_none ht hg, List.length_cons]
    omega
theorem extract_all (s : ByteArray) (a : Nat) : (s.extract a s.size).data.toList = s.data.toList.drop a := by
 rw [ext_list, ← len_eqC, List.take_length]
theorem longest_stop {B : Book} {t : List UInt8} {n : Nat} {e : List El} (h : lookBk B (t.take (n + 1)) = some e) : longest B t (n + 1) = some (n + 1, e) := by
 unfold longest
 rw [h]
theorem longest_go {B : Book} {t : List UInt8} {n : Nat} (h : lookBk B (t.take (n + 1)) = none) : longest B t (n + 1) = longest B t n := by
 rw [longest, h]
theorem elW_len (e : List El) : (elW e).length = e.length * 3 := by
 induction e with
 | nil => rfl
 | cons x e ih =>
  show (_ :: _ :: _ :: elW e).length = _
  simp only [List.length_cons, ih]
  omega
theorem elW_app (a b : List El) : elW (a ++ b) = elW a ++ elW b := by simp [elW, List.flatMap_append]
theorem elW_one (e : List El) : ∀ u ∈ elW e, u.oneCell' = true := by
 intro u hu
 obtain ⟨x, _, hx⟩ := List.mem_flatMap.1 hu
 simp at hx
 rcases hx with rfl | rfl | rfl <;> rfl
set_option maxRecDepth 100000 in
set_option maxHeartbeats 8000000 in
theorem c_els (s : ByteArray) (w : World) (hT : TabsC w) (hs : s.size ≤ 50000) :
  Calls Tryz.prog 31 #[.string s] w fun e w' => ∃ v, e = .returned v ∧ w'.ownsRow w.heap.size 59 3 v (elems bookP (mostC bookP) s.data.toList).length (elW (elems bookP (mostC bookP) s.data.toList)) ∧ Ext w w' := by
 have hHE : Hid (∃ i0, Tryz.prog.info? 59 = some i0 ∧ i0.zero = some (.agg #[.int .i64 0, .int .i64 0, .int .i64 0]) ∧ i0.size = 3 ∧ i0.bytes = 24) := by
  obtain ⟨i0, hi, hz0, hz1, hz2⟩ := info_parts Tryz.infoEl
  exact ⟨i0, hi, hz0, hz1, hz2⟩
 go_enter Tryz.func31, Tryz.ntmps31
 go_wp2_with fail
 refine wp_scope_straight ?_
 go_wp2_with fail
 refine (c_weights w hT).mono ?_
 rintro e w1 ⟨mb, kv, rfl, hB, hx1⟩
 have HB1 := Lib.hid hB
 have HX1 := Lib.hid hx1
 clear hB hx1
 obtain ⟨mo, hmo⟩ : ∃ x, mostC bookP = x := ⟨_, rfl⟩
 have HL := Lib.hid linesP_ok
 have HMO := Lib.hid hmo
 rw [hmo] at HL ⊢
 have hmI : ((mo : Nat) : Int) ≤ 1000 := by have := HL.out.2.2.2.2; omega
 have HBL := Lib.hid (show ∀ p ∈ bookP, p.2.length ≤ 1000 from fun p hp => by
  obtain ⟨l, hl, rfl⟩ := List.mem_map.1 hp
  have h1 := (HL.out.1 l hl).few.2
  show ((Lib.fields (cutC 59 [] l).2).map elOf).length ≤ 1000
  rw [List.length_map]
  exact h1)
 have HKL := Lib.hid (show ∀ e ∈ bookP, e.1.length ≤ 100000 from fun p hp => by
  have h1 := most_le bookP p hp
  have h2 := HL.out.2.2.2.2
  omega)
 have HEL := Lib.hid (elems_len (most := mo) HBL.out s.data.toList.length s.data.toList (Nat.le_refl _))
 obtain ⟨BK, hBK⟩ : ∃ x, bookP = x := ⟨_, rfl⟩
 obtain ⟨E, hE⟩ : ∃ x, elems bookP mo s.data.toList = x := ⟨_, rfl⟩
 have HE := Lib.hid hE
 rw [hE] at HEL
 rw [hBK] at HB1 HL HBL HKL HE
 have HBK := Lib.hid hBK
 have hElen : E.length ≤ 50000000 := by
  have := HEL.out
  rw [len_eqC] at this
  omega
 clear hmo hE hBK HEL
 go_wp2_with fail
 refine wp_label ?_
 go_wp2_with fail
 go_loopw [0, 5] (fun tv lv W => ∃ (t : ByteArray) (D : List El), tv = .string t ∧ t.size ≤ s.size ∧ Hid (D ++ elems BK mo t.data.toList = E) ∧ Hid (W.ownsRow w1.heap.size 59 3 lv D.length (elW D)) ∧ Hid (Ext w1 W)) (fun tv _ _ => match tv with | .string t => t.size | _ => 0)
 case atStart => exact ⟨s, [], rfl, Nat.le_refl _, Lib.hid HE.out, Lib.hid (World.ownsRow_nil _ _ _ _), Lib.hid (Ext.refl _)⟩
 case round =>
  obtain ⟨t, D, rfl, hts, HD, HROW, HXR⟩ := hrel
  obtain ⟨Wr, rfl⟩ : ∃ Wr, Wr = wr := ⟨wr, rfl⟩
  have htI : ((t.size : Nat) : Int) ≤ 50000 := by omega
  by_cases h0 : 0 < t.size
  ·have h0I : (0 : Int) < (t.size : Nat) := by omega
   have h0d : decide ((0 : Int) < (t.size : Nat)) = true := decide_eq_true h0I
   go_wp2_with fail
   have HTN := Lib.hid (show t.data.toList ≠ [] from fun e => by have := congrArg List.length e; rw [len_eqC, List.length_nil] at this; omega)
   have HTL := Lib.hid (len_eqC t)
   go_loopw [0, 5, 6] (fun tv lv nv W => tv = .string t ∧ lv = u5 ∧ ∃ n : Nat, nv = .int .i64 (n : Nat) ∧ n ≤ mo ∧ n ≤ t.size ∧ Hid (longest BK t.data.toList (min mo t.data.toList.length) = longest BK t.data.toList n) ∧ W = Wr) (fun _ _ nv _ => (intOf nv).toNat)
   case atStart => exact ⟨rfl, rfl, min mo t.size, by simp only [Value.int.injEq, true_and]; omega, by omega, by omega, Lib.hid (by rw [HTL.out]), rfl⟩
   case round =>
    obtain ⟨rfl, rfl, n, rfl, hnm, hnt, HLG, rfl⟩ := hrel
    cases n with
    | zero =>
     have HNO := Lib.hid (show longest BK t.data.toList (min mo t.data.toList.length) = none from HLG.out)
     clear HLG
     have HST := Lib.hid (show elems BK mo t.data.toList = plainE t.data.toList :: elems BK mo (t.data.toList.drop (wid t.data.toList)) from elems_none HTN.out HNO.out)
     have hwp := wid_pos t.data.toList
     have hwl : wid t.data.toList ≤ t.size := by have := wid_le t.data.toList HTN.out; rw [len_eqC] at this; exact this
     have hrm := run_max t.data.toList
     have HPE := Lib.hid (show plainE t.data.toList = (if run t.data.toList = 65533 ∧ wid t.data.toList = 1 then 2000000 + (t.data.toList.getD 0 0).toNat else 65536 + run t.data.toList, 32, 2) from rfl)
     have HDC := Lib.hid (c_Decode t wr (hT.t.ext (HX1.out.trans HXR.out)) h0)
     generalize wid t.data.toList = wd at HST hwp hwl HPE HDC
     generalize run t.data.toList = r at hrm HPE HDC
     go_wp2_with fail
     refine (HDC.out).mono ?_
     rintro e w5 ⟨rfl, hx5⟩
     have HR5 := Lib.hid (And.intro (ownsRow_ext HROW.out hx5) (HXR.out.trans hx5))
     have hrI : ((r : Nat) : Int) ≤ 1114111 := by omega
     have hwI : ((wd : Nat) : Int) ≤ (t.size : Nat) := by omega
     clear hx5 HROW HDC HNO
     have hg0 : (t[0]'h0).toNat = (t.data.toList.getD 0 0).toNat := by
      rw [List.getD_eq_getElem?_getD, List.getElem?_eq_getElem (by rw [len_eqC]; exact h0)]
      rfl
     have hc256 := (t[0]'h0).toNat_lt
     obtain ⟨c0, hc0⟩ : ∃ c0, (t[0]'h0).toNat = c0 := ⟨_, rfl⟩
     rw [hc0] at hg0 hc256
     have HG0 := Lib.hid hg0
     have hc255 : ((c0 : Nat) : Int) ≤ 255 := by omega
     clear hg0 hc256
     by_cases hr1 : r = 65533
     ·have hrq : (((r : Nat) : Int) == 65533) = true := by rw [hr1]; rfl
      by_cases hw1 : wd = 1
      ·have hwq : (((wd : Nat) : Int) == 1) = true := by rw [hw1]; rfl
       have HPF := Lib.hid (show plainE t.data.toList = (2000000 + c0, 32, 2) by rw [HPE.out, if_pos ⟨hr1, hw1⟩, HG0.out])
       clear hr1 hw1
       go_wp2_with (at_builtin; refine Hid.out ?_)
       refine Lib.hid ?_
       obtain ⟨i0, hi0, hz0, hz1, hz3⟩ := hHE.out
       refine wpList_app rfl (.tmp 60) (.tmp 63) 28 rfl 59 i0 (.agg #[.int .i64 0, .int .i64 0, .int .i64 0]) 3 24 Tryz.underlying28 hi0 hz0 hz1 hz3 rfl (by decide) rfl HR5.out.1 HR5.out.2 [.int .i64 (2000000 + ((c0 : Nat) : Int)), .int .i64 32, .int .i64 2] rfl rfl (by intro u hu; simp at hu; rcases hu with rfl | rfl | rfl <;> rfl) ?b1 (by decide) ?_
       case b1 =>
        have := congrArg List.length HD.out
        rw [List.length_append] at this
        omega
       intro v' w9 hown9 hx9 _
       have HO := Lib.hid (And.intro (show w9.ownsRow w1.heap.size 59 3 v' (D ++ [plainE t.data.toList]).length (elW (D ++ [plainE t.data.toList])) by
        have he : elW [plainE t.data.toList] = [.int .i64 (2000000 + ((c0 : Nat) : Int)), .int .i64 32, .int .i64 2] := by rw [HPF.out]; simp [elW]
        rw [List.length_append, elW_app, he]
        exact hown9) hx9)
       have HDE := Lib.hid (show D ++ [plainE t.data.toList] ++ elems BK mo (t.data.toList.drop wd) = E by rw [← HD.out, HST.out, List.append_assoc]; rfl)
       clear hown9 hx9 HR5 HPF HPE HST
       go_wp2_with fail
       have hms : (t.extract wd t.size).size = t.size - wd := by rw [ByteArray.size_extract, Nat.min_self]
       refine ⟨⟨_, D ++ [plainE t.data.toList], rfl, by rw [hms]; omega, Lib.hid (by rw [extract_all]; exact HDE.out), Lib.hid HO.out.1, Lib.hid HO.out.2⟩, ?_⟩
       show (t.extract wd t.size).size < t.size
       rw [hms]
       omega
      ·have hwq : (((wd : Nat) : Int) == 1) = false := beq_false_of_ne (by omega)
       have HPF := Lib.hid (show plainE t.data.toList = (65536 + r, 32, 2) by rw [HPE.out, if_neg (fun h => hw1 h.2)])
       clear hr1 hw1
       go_wp2_with (at_builtin; refine Hid.out ?_)
       refine Lib.hid ?_
       obtain ⟨i0, hi0, hz0, hz1, hz3⟩ := hHE.out
       refine wpList_app rfl (.tmp 60) (.tmp 63) 28 rfl 59 i0 (.agg #[.int .i64 0, .int .i64 0, .int .i64 0]) 3 24 Tryz.underlying28 hi0 hz0 hz1 hz3 rfl (by decide) rfl HR5.out.1 HR5.out.2 [.int .i64 (65536 + ((r : Nat) : Int)), .int .i64 32, .int .i64 2] rfl rfl (by intro u hu; simp at hu; rcases hu with rfl | rfl | rfl <;> rfl) ?b2 (by decide) ?_
       case b2 =>
        have := congrArg List.length HD.out
        rw [List.length_append] at this
        omega
       intro v' w9 hown9 hx9 _
       have HO := Lib.hid (And.intro (show w9.ownsRow w1.heap.size 59 3 v' (D ++ [plainE t.data.toList]).length (elW (D ++ [plainE t.data.toList])) by
        have he : elW [plainE t.data.toList] = [.int .i64 (65536 + ((r : Nat) : Int)), .int .i64 32, .int .i64 2] := by rw [HPF.out]; simp [elW]
        rw [List.length_append, elW_app, he]
        exact hown9) hx9)
       have HDE := Lib.hid (show D ++ [plainE t.data.toList] ++ elems BK mo (t.data.toList.drop wd) = E by rw [← HD.out, HST.out, List.append_assoc]; rfl)
       clear hown9 hx9 HR5 HPF HPE HST
       go_wp2_with fail
       have hms : (t.extract wd t.size).size = t.size - wd := by rw [ByteArray.size_extract, Nat.min_self]
       refine ⟨⟨_, D ++ [plainE t.data.toList], rfl, by rw [hms]; omega, Lib.hid (by rw [extract_all]; exact HDE.out), Lib.hid HO.out.1, Lib.hid HO.out.2⟩, ?_⟩
       show (t.extract wd t.size).size < t.size
       rw [hms]
       omega
     ·have hrq : (((r : Nat) : Int) == 65533) = false := beq_false_of_ne (by omega)
      have HPF := Lib.hid (show plainE t.data.toList = (65536 + r, 32, 2) by rw [HPE.out, if_neg (fun h => hr1 h.1)])
      clear hr1
      go_wp2_with (at_builtin; refine Hid.out ?_)
      refine Lib.hid ?_
      obtain ⟨i0, hi0, hz0, hz1, hz3⟩ := hHE.out
      refine wpList_app rfl (.tmp 60) (.tmp 63) 28 rfl 59 i0 (.agg #[.int .i64 0, .int .i64 0, .int .i64 0]) 3 24 Tryz.underlying28 hi0 hz0 hz1 hz3 rfl (by decide) rfl HR5.out.1 HR5.out.2 [.int .i64 (65536 + ((r : Nat) : Int)), .int .i64 32, .int .i64 2] rfl rfl (by intro u hu; simp at hu; rcases hu with rfl | rfl | rfl <;> rfl) ?b3 (by decide) ?_
      case b3 =>
       have := congrArg List.length HD.out
       rw [List.length_append] at this
       omega
      intro v' w9 hown9 hx9 _
      have HO := Lib.hid (And.intro (show w9.ownsRow w1.heap.size 59 3 v' (D ++ [plainE t.data.toList]).length (elW (D ++ [plainE t.data.toList])) by
       have he : elW [plainE t.data.toList] = [.int .i64 (65536 + ((r : Nat) : Int)), .int .i64 32, .int .i64 2] := by rw [HPF.out]; simp [elW]
       rw [List.length_append, elW_app, he]
       exact hown9) hx9)
      have HDE := Lib.hid (show D ++ [plainE t.data.toList] ++ elems BK mo (t.data.toList.drop wd) = E by rw [← HD.out, HST.out, List.append_assoc]; rfl)
      clear hown9 hx9 HR5 HPF HPE HST
      go_wp2_with fail
      have hms : (t.extract wd t.size).size = t.size - wd := by rw [ByteArray.size_extract, Nat.min_self]
      refine ⟨⟨_, D ++ [plainE t.data.toList], rfl, by rw [hms]; omega, Lib.hid (by rw [extract_all]; exact HDE.out), Lib.hid HO.out.1, Lib.hid HO.out.2⟩, ?_⟩
      show (t.extract wd t.size).size < t.size
      rw [hms]
      omega
    | succ n =>
     obtain ⟨m, hm⟩ : ∃ m, n + 1 = m := ⟨_, rfl⟩
     have HM := Lib.hid hm
     rw [hm] at hnm hnt HLG ⊢
     have hnI : (0 : Int) < ((m : Nat) : Int) := by omega
     have hnd : decide ((0 : Int) < ((m : Nat) : Int)) = true := decide_eq_true hnI
     have hnT : ((m : Nat) : Int) ≤ (t.size : Nat) := by omega
     obtain ⟨k, hk⟩ : ∃ k, t.extract 0 m = k := ⟨_, rfl⟩
     have hkl : k.data.toList = t.data.toList.take m := by rw [← hk, ext_list, List.drop_zero]
     have hka : k = ⟨(t.data.toList.take m).toArray⟩ := by rw [← hkl]
     obtain ⟨v, b, hlk, hcase⟩ := (HB1.out.ext HXR.out).look HL.out.2.1 HKL.out (k := t.data.toList.take m) (by rw [List.length_take, HTL.out]; omega)
     rw [← hka] at hlk
     have HK := Lib.hid hk
     rcases hcase with ⟨rfl, e, he, hrow⟩ | ⟨rfl, he⟩
     ·have HC := Lib.hid (And.intro he hrow)
      clear hkl hka hm he hrow
      go_wp2_with (at_builtin; refine Hid.out ?_)
      refine Lib.hid ?_
      obtain ⟨i0, hi0, hz0, hz1, hz3⟩ := hHE.out
      have HST := Lib.hid (show elems BK mo t.data.toList = e ++ elems BK mo (t.data.toList.drop m) from elems_some HTN.out (HLG.out.trans (by rw [← HM.out]; exact longest_stop (by rw [HM.out]; exact HC.out.1))))
      have HDE := Lib.hid (show D ++ e ++ elems BK mo (t.data.toList.drop m) = E by rw [← HD.out, HST.out, List.append_assoc])
      have hlen : D.length + e.length ≤ 50000000 := by
       have := congrArg List.length HDE.out
       rw [List.length_append, List.length_append] at this
       omega
      have hmT : m ≤ t.size := hnt
      rcases HC.out.2.2 with ⟨rfl, he0⟩ | ⟨g, cap, cur, rfl, _⟩
      ·obtain rfl : e = [] := List.length_eq_zero_iff.1 he0
       refine wpList_append_own_none rfl (.tmp 36) (.tmp 37) 28 rfl w1.heap.size 59 i0 3 Tryz.underlying28 hi0 u5 D.length (elW D) rfl HROW.out rfl ?_
       have HO := Lib.hid (And.intro (show wr.ownsRow w1.heap.size 59 3 u5 (D ++ []).length (elW (D ++ [])) by rw [List.append_nil]; exact HROW.out) HXR.out)
       clear HROW HLG HC HST
       go_wp2_with fail
       have hms : (t.extract m t.size).size = t.size - m := by rw [ByteArray.size_extract, Nat.min_self]
       refine ⟨⟨_, D ++ [], rfl, by rw [hms]; omega, Lib.hid (by rw [extract_all]; exact HDE.out), Lib.hid HO.out.1, Lib.hid HO.out.2⟩, ?_⟩
       show (t.extract m t.size).size < t.size
       rw [hms]
       have := HM.out
       omega
      ·have hcel := fun j (hj : j < e.length * 3) => HC.out.2.cellAt j hj
       refine wpList_apps rfl (.tmp 36) (.tmp 37) 28 rfl 59 i0 (.agg #[.int .i64 0, .int .i64 0, .int .i64 0]) 3 24 Tryz.underlying28 hi0 hz0 hz1 hz3 rfl (by decide) rfl HROW.out HXR.out (elW e) g 0 e.length cap rfl (elW_len e) ?a1 (elW_one e) ?a2 (by decide) ?_
       case a1 =>
        intro j hj
        have h1 := hcel j (by rw [elW_len] at hj; exact hj)
        rw [Nat.zero_add, h1, List.getElem?_eq_getElem hj]
       case a2 => omega
       intro v' w9 hown9 hx9 _
       have HO := Lib.hid (And.intro (show w9.ownsRow w1.heap.size 59 3 v' (D ++ e).length (elW (D ++ e)) by rw [List.length_append, elW_app]; exact hown9) hx9)
       clear hown9 hx9 hcel HROW HLG HC HST
       go_wp2_with fail
       have hms : (t.extract m t.size).size = t.size - m := by rw [ByteArray.size_extract, Nat.min_self]
       refine ⟨⟨_, D ++ e, rfl, by rw [hms]; omega, Lib.hid (by rw [extract_all]; exact HDE.out), Lib.hid HO.out.1, Lib.hid HO.out.2⟩, ?_⟩
       show (t.extract m t.size).size < t.size
       rw [hms]
       have := HM.out
       omega
     ·have HC := Lib.hid he
      clear hkl hka hm he
      have hm1 : ((m : Nat) : Int) - 1 = ((n : Nat) : Int) := by have := HM.out; omega
      go_wp2_with fail
      exact ⟨⟨rfl, rfl, n, rfl, by have := HM.out; omega, by have := HM.out; omega, Lib.hid (by rw [HLG.out, ← HM.out]; exact longest_go (by rw [HM.out]; exact HC.out)), trivial⟩, by have := HM.out; simp only [intOf]; omega⟩
  ·have h0I : ¬ (0 : Int) < (t.size : Nat) := by omega
   have h0d : decide ((0 : Int) < (t.size : Nat)) = false := decide_eq_false h0I
   have ht : t.data.toList = [] := List.length_eq_zero_iff.1 (by rw [len_eqC]; omega)
   have HDE := Lib.hid (show D = E by have := HD.out; rw [ht, elems_nil, List.append_nil] at this; exact this)
   clear ht HD h0
   go_wp2_with fail
   have HR := Lib.hid (show Wr.ownsRow w1.heap.size 59 3 u5 E.length (elW E) by rw [← HDE.out]; exact HROW.out)
   exact ret_one rfl rfl rfl ⟨_, rfl, by rw [HMO.out, HBK.out, HE.out]; exact own_lower HR.out HX1.out.sz, HX1.out.trans HXR.out⟩
end Go.Proofs.YtokeamebcdhnpaaGreatDoor
