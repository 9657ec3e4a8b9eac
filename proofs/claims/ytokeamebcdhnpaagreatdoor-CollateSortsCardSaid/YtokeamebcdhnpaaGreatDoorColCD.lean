/-
 The elements of a text. What has a part in the first sections. A row of elements is copied and turned round.
-/
import Derived.Test.YtokeamebcdhnpaaGreatDoorColB
import Derived.Scope
import Derived.Control
import Derived.Laws.AppendOwnNone
section
namespace Go.Proofs.YtokeamebcdhnpaaGreatDoor
open Go.RowKit Go.Rp Go.Shelf Go.Maps Go.Cl

attribute [local go_sem] run_makeMap
theorem lookBk_at {B : Book} (hnd : (B.map (·.1)).Nodup) {i : Nat} (hi : i < B.length) : lookBk B B[i].1 = some B[i].2 := by
 cases h : lookBk B B[i].1 with
 | none =>
  exfalso
  unfold lookBk at h
  rw [Option.map_eq_none_iff, List.find?_eq_none] at h
  exact h B[i] (List.getElem_mem hi) (by simp)
 | some e =>
  obtain ⟨p, hp, rfl, hk⟩ := lookBk_mem h
  obtain ⟨j, hj, rfl⟩ := List.mem_iff_getElem.1 hp
  have hij : j = i := by
   rcases Nat.lt_trichotomy j i with h1 | h1 | h1
   ·exact absurd (by rw [List.getElem_map, List.getElem_map]; exact hk) (List.pairwise_iff_getElem.1 hnd j i (by simpa using hj) (by simpa using hi) h1)
   ·exact h1
   ·exact absurd (by rw [List.getElem_map, List.getElem_map]; exact hk.symm) (List.pairwise_iff_getElem.1 hnd i j (by simpa using hi) (by simpa using hj) h1)
  subst hij
  rfl
theorem lookBk_no {B : Book} {k : List UInt8} (h : ∀ p ∈ B, p.1 ≠ k) : lookBk B k = none := by
 unfold lookBk
 rw [Option.map_eq_none_iff, List.find?_eq_none]
 intro p hp
 simpa using h p hp
/-- A look-up in the book. -/
theorem BMap.look {n : Nat} {W : World} {m : Nat} {kv : List (Value × Value)} {B : Book} (h : BMap n W m kv B) (hnd : (B.map (·.1)).Nodup) (hE : ∀ e ∈ B, e.1.length ≤ 100000) {k : List UInt8} (hk : k.length ≤ 100000) :
  ∃ v b, (Instr.lookup 80 (.map (some m)) (.string ⟨k.toArray⟩) true).run Tryz.prog W = .ok (.tuple #[v, .bool b]) W ∧ ((b = true ∧ ∃ e, lookBk B k = some e ∧ W.ownsRow n 59 3 v e.length (elW e)) ∨ (b = false ∧ lookBk B k = none)) := by
 have hkey : keyOf Tryz.prog 9 (.string ⟨k.toArray⟩) = some (.string k.toArray.toList) := Go.WideMaps.keyOf_string_mk Tryz.underlying9 (by show k.toArray.size ≤ _; rw [List.size_toArray]; unfold maxLen; omega)
 obtain ⟨v, b, hr, hc⟩ := h.1.look (string_keyed Tryz.underlying9) Tryz.underlying80 (h.keys hE) hkey (fun W => Tryz.zeroValue28 W) true
 refine ⟨v, b, hr, ?_⟩
 rcases hc with ⟨rfl, hm⟩ | ⟨rfl, _, hm⟩
 ·obtain ⟨i, hi, e⟩ := List.mem_iff_getElem.1 hm
  have hi' : i < B.length := by rw [← h.2.1]; exact hi
  obtain ⟨u, e2, hu⟩ := h.2.2 i hi hi'
  rw [e] at e2
  obtain ⟨e3, rfl⟩ := Prod.mk.inj e2
  have e4 := str_inj e3
  subst e4
  exact .inl ⟨rfl, _, lookBk_at hnd hi', hu⟩
 ·refine .inr ⟨rfl, lookBk_no fun p hp e => ?_⟩
  obtain ⟨i, hi, rfl⟩ := List.mem_iff_getElem.1 hp
  have hi' : i < kv.length := by rw [h.2.1]; exact hi
  obtain ⟨u, e2, hu⟩ := h.2.2 i hi' hi
  exact hm _ (List.getElem_mem hi') (by rw [e2, e])
theorem elemsGo_fuel (B : Book) (most : Nat) : ∀ k t, t.length ≤ k → elemsGo B most k t = elems B most t := by
 have key : ∀ n k t, t.length ≤ n → t.length ≤ k → elemsGo B most k t = elemsGo B most n t := by
  intro n
  induction n with
  | zero =>
   intro k t h _
   obtain rfl : t = [] := List.length_eq_zero_iff.1 (by omega)
   cases k with
   | zero => rfl
   | succ k => simp [elemsGo]
  | succ n ih =>
   intro k t h hk
   by_cases ht : t = []
   ·subst ht
    cases k with
    | zero => simp [elemsGo]
    | succ k => simp [elemsGo]
   ·have hl : 0 < t.length := List.length_pos_iff.2 ht
    cases k with
    | zero => omega
    | succ k =>
     unfold elemsGo
     rw [if_neg ht, if_neg ht]
     cases hg : longest B t (min most t.length) with
     | some q =>
      obtain ⟨m, e⟩ := q
      have h1 := (longest_some hg).1
      show e ++ _ = e ++ _
      rw [ih k (t.drop m) (by rw [List.length_drop]; omega) (by rw [List.length_drop]; omega)]
     | none =>
      have h1 : 1 ≤ (dec t).2 := wid_pos t
      show _ :: _ = _ :: _
      rw [ih k (t.drop (dec t).2) (by rw [List.length_drop]; omega) (by rw [List.length_drop]; omega)]
 intro k t h
 exact key t.length k t (Nat.le_refl _) h
theorem elems_some {B : Book} {most : Nat} {t : List UInt8} {n : Nat} {e : List El} (ht : t ≠ []) (h : longest B t (min most t.length) = some (n, e)) : elems B most t = e ++ elems B most (t.drop n) := by
 have hl : 0 < t.length := List.length_pos_iff.2 ht
 rw [← elemsGo_fuel B most (t.length + 1) t (by omega), ← elemsGo_fuel B most t.length (t.drop n) (by rw [List.length_drop]; omega), elemsGo, if_neg ht, h]
theorem elems_none {B : Book} {most : Nat} {t : List UInt8} (ht : t ≠ []) (h : longest B t (min most t.length) = none) : elems B most t = plainE t :: elems B most (t.drop (dec t).2) := by
 have hl : 0 < t.length := List.length_pos_iff.2 ht
 rw [← elemsGo_fuel B most (t.length + 1) t (by omega), ← elemsGo_fuel B most t.length (t.drop (dec t).2) (by rw [List.length_drop]; omega), elemsGo, if_neg ht, h]
theorem elems_nil (B : Book) (most : Nat) : elems B most [] = [] := rfl
theorem elems_len {B : Book} {most : Nat} (hB : ∀ p ∈ B, p.2.length ≤ 1000) : ∀ n t, t.length ≤ n → (elems B most t).length ≤ 1000 * t.length := by
 intro n
 induction n with
 | zero =>
  intro t h
  obtain rfl : t = [] := List.length_eq_zero_iff.1 (by omega)
  simp [elems_nil]
 | succ n ih =>
  intro t h
  by_cases ht : t = []
  ·subst ht
   simp [elems_nil]
  ·have hl : 0 < t.length := List.length_pos_iff.2 ht
   cases hg : longest B t (min most t.length) with
   | some q =>
    obtain ⟨m, e⟩ := q
    obtain ⟨h1, h2, h3⟩ := longest_some hg
    obtain ⟨p, hp, rfl, _⟩ := lookBk_mem h3
    have h4 := hB p hp
    have h5 := ih (t.drop m) (by rw [List.length_drop]; omega)
    rw [List.length_drop] at h5
    rw [elems_some ht hg, List.length_append]
    omega
   | none =>
    have h1 : 1 ≤ (dec t).2 := wid_pos t
    have h5 := ih (t.drop (dec t).2) (by rw [List.length_drop]; omega)
    rw [List.length_drop] at h5
    rw [elems_none ht hg, List.length_cons]
    omega
theorem extract_all (s : ByteArray) (a : Nat) : (s.extract a s.size).data.toList = s.data.toList.drop a := by
 rw [ext_list, ← len_eqC, List.take_length]
theorem longest_stop {B : Book} {t : List UInt8} {n : Nat} {e : List El} (h : lookBk B (t.take (n + 1)) = some e) : longest B t (n + 1) = some (n + 1, e) := by
 unfold longest
 rw [h]
theorem longest_go {B : Book} {t : List UInt8} {n : Nat} (h : lookBk B (t.take (n + 1)) = none) : longest B t (n + 1) = longest B t n := by
 rw [longest, h]
theorem elW_len (e : List El) : (elW e).length = e.length * 3 := by
 induction e with
 | nil => rfl
 | cons x e ih =>
  show (_ :: _ :: _ :: elW e).length = _
  simp only [List.length_cons, ih]
  omega
theorem elW_app (a b : List El) : elW (a ++ b) = elW a ++ elW b := by simp [elW, List.flatMap_append]
theorem elW_one (e : List El) : ∀ u ∈ elW e, u.oneCell' = true := by
 intro u hu
 obtain ⟨x, _, hx⟩ := List.mem_flatMap.1 hu
 simp at hx
 rcases hx with rfl | rfl | rfl <;> rfl
set_option maxRecDepth 100000 in
set_option maxHeartbeats 8000000 in
theorem c_els (s : ByteArray) (w : World) (hT : TabsC w) (hs : s.size ≤ 50000) :
  Calls Tryz.prog 31 #[.string s] w fun e w' => ∃ v, e = .returned v ∧ w'.ownsRow w.heap.size 59 3 v (elems bookP (mostC bookP) s.data.toList).length (elW (elems bookP (mostC bookP) s.data.toList)) ∧ Ext w w' := by
 have hHE : Hid (∃ i0, Tryz.prog.info? 59 = some i0 ∧ i0.zero = some (.agg #[.int .i64 0, .int .i64 0, .int .i64 0]) ∧ i0.size = 3 ∧ i0.bytes = 24) := by
  obtain ⟨i0, hi, hz0, hz1, hz2⟩ := info_parts Tryz.infoEl
  exact ⟨i0, hi, hz0, hz1, hz2⟩
 go_enter Tryz.func31, Tryz.ntmps31
 go_wp2_with fail
 refine wp_scope_straight ?_
 go_wp2_with fail
 refine (c_weights w hT).mono ?_
 rintro e w1 ⟨mb, kv, rfl, hB, hx1⟩
 have HB1 := Lib.hid hB
 have HX1 := Lib.hid hx1
 clear hB hx1
 obtain ⟨mo, hmo⟩ : ∃ x, mostC bookP = x := ⟨_, rfl⟩
 have HL := Lib.hid linesP_ok
 have HMO := Lib.hid hmo
 rw [hmo] at HL ⊢
 have hmI : ((mo : Nat) : Int) ≤ 1000 := by have := HL.out.2.2.2.2; omega
 have HBL := Lib.hid (show ∀ p ∈ bookP, p.2.length ≤ 1000 from fun p hp => by
  obtain ⟨l, hl, rfl⟩ := List.mem_map.1 hp
  have h1 := (HL.out.1 l hl).few.2
  show ((Lib.fields (cutC 59 [] l).2).map elOf).length ≤ 1000
  rw [List.length_map]
  exact h1)
 have HKL := Lib.hid (show ∀ e ∈ bookP, e.1.length ≤ 100000 from fun p hp => by
  have h1 := most_le bookP p hp
  have h2 := HL.out.2.2.2.2
  omega)
 have HEL := Lib.hid (elems_len (most := mo) HBL.out s.data.toList.length s.data.toList (Nat.le_refl _))
 obtain ⟨BK, hBK⟩ : ∃ x, bookP = x := ⟨_, rfl⟩
 obtain ⟨E, hE⟩ : ∃ x, elems bookP mo s.data.toList = x := ⟨_, rfl⟩
 have HE := Lib.hid hE
 rw [hE] at HEL
 rw [hBK] at HB1 HL HBL HKL HE
 have HBK := Lib.hid hBK
 have hElen : E.length ≤ 50000000 := by
  have := HEL.out
  rw [len_eqC] at this
  omega
 clear hmo hE hBK HEL
 go_wp2_with fail
 refine wp_label ?_
 go_wp2_with fail
 go_loopw [0, 5] (fun tv lv W => ∃ (t : ByteArray) (D : List El), tv = .string t ∧ t.size ≤ s.size ∧ Hid (D ++ elems BK mo t.data.toList = E) ∧ Hid (W.ownsRow w1.heap.size 59 3 lv D.length (elW D)) ∧ Hid (Ext w1 W)) (fun tv _ _ => match tv with | .string t => t.size | _ => 0)
 case atStart => exact ⟨s, [], rfl, Nat.le_refl _, Lib.hid HE.out, Lib.hid (World.ownsRow_nil _ _ _ _), Lib.hid (Ext.refl _)⟩
 case round =>
  obtain ⟨t, D, rfl, hts, HD, HROW, HXR⟩ := hrel
  obtain ⟨Wr, rfl⟩ : ∃ Wr, Wr = wr := ⟨wr, rfl⟩
  have htI : ((t.size : Nat) : Int) ≤ 50000 := by omega
  by_cases h0 : 0 < t.size
  ·have h0I : (0 : Int) < (t.size : Nat) := by omega
   have h0d : decide ((0 : Int) < (t.size : Nat)) = true := decide_eq_true h0I
   go_wp2_with fail
   have HTN := Lib.hid (show t.data.toList ≠ [] from fun e => by have := congrArg List.length e; rw [len_eqC, List.length_nil] at this; omega)
   have HTL := Lib.hid (len_eqC t)
   go_loopw [0, 5, 6] (fun tv lv nv W => tv = .string t ∧ lv = u5 ∧ ∃ n : Nat, nv = .int .i64 (n : Nat) ∧ n ≤ mo ∧ n ≤ t.size ∧ Hid (longest BK t.data.toList (min mo t.data.toList.length) = longest BK t.data.toList n) ∧ W = Wr) (fun _ _ nv _ => (intOf nv).toNat)
   case atStart => exact ⟨rfl, rfl, min mo t.size, by simp only [Value.int.injEq, true_and]; omega, by omega, by omega, Lib.hid (by rw [HTL.out]), rfl⟩
   case round =>
    obtain ⟨rfl, rfl, n, rfl, hnm, hnt, HLG, rfl⟩ := hrel
    cases n with
    | zero =>
     have HNO := Lib.hid (show longest BK t.data.toList (min mo t.data.toList.length) = none from HLG.out)
     clear HLG
     have HST := Lib.hid (show elems BK mo t.data.toList = plainE t.data.toList :: elems BK mo (t.data.toList.drop (wid t.data.toList)) from elems_none HTN.out HNO.out)
     have hwp := wid_pos t.data.toList
     have hwl : wid t.data.toList ≤ t.size := by have := wid_le t.data.toList HTN.out; rw [len_eqC] at this; exact this
     have hrm := run_max t.data.toList
     have HPE := Lib.hid (show plainE t.data.toList = (if run t.data.toList = 65533 ∧ wid t.data.toList = 1 then 2000000 + (t.data.toList.getD 0 0).toNat else 65536 + run t.data.toList, 32, 2) from rfl)
     have HDC := Lib.hid (c_Decode t wr (hT.t.ext (HX1.out.trans HXR.out)) h0)
     generalize wid t.data.toList = wd at HST hwp hwl HPE HDC
     generalize run t.data.toList = r at hrm HPE HDC
     go_wp2_with fail
     refine (HDC.out).mono ?_
     rintro e w5 ⟨rfl, hx5⟩
     have HR5 := Lib.hid (And.intro (ownsRow_ext HROW.out hx5) (HXR.out.trans hx5))
     have hrI : ((r : Nat) : Int) ≤ 1114111 := by omega
     have hwI : ((wd : Nat) : Int) ≤ (t.size : Nat) := by omega
     clear hx5 HROW HDC HNO
     have hg0 : (t[0]'h0).toNat = (t.data.toList.getD 0 0).toNat := by
      rw [List.getD_eq_getElem?_getD, List.getElem?_eq_getElem (by rw [len_eqC]; exact h0)]
      rfl
     have hc256 := (t[0]'h0).toNat_lt
     obtain ⟨c0, hc0⟩ : ∃ c0, (t[0]'h0).toNat = c0 := ⟨_, rfl⟩
     rw [hc0] at hg0 hc256
     have HG0 := Lib.hid hg0
     have hc255 : ((c0 : Nat) : Int) ≤ 255 := by omega
     clear hg0 hc256
     by_cases hr1 : r = 65533
     ·have hrq : (((r : Nat) : Int) == 65533) = true := by rw [hr1]; rfl
      by_cases hw1 : wd = 1
      ·have hwq : (((wd : Nat) : Int) == 1) = true := by rw [hw1]; rfl
       have HPF := Lib.hid (show plainE t.data.toList = (2000000 + c0, 32, 2) by rw [HPE.out, if_pos ⟨hr1, hw1⟩, HG0.out])
       clear hr1 hw1
       go_wp2_with (at_builtin; refine Hid.out ?_)
       refine Lib.hid ?_
       obtain ⟨i0, hi0, hz0, hz1, hz3⟩ := hHE.out
       refine wpList_app rfl (.tmp 60) (.tmp 63) 28 rfl 59 i0 (.agg #[.int .i64 0, .int .i64 0, .int .i64 0]) 3 24 Tryz.underlying28 hi0 hz0 hz1 hz3 rfl (by decide) rfl HR5.out.1 HR5.out.2 [.int .i64 (2000000 + ((c0 : Nat) : Int)), .int .i64 32, .int .i64 2] rfl rfl (by intro u hu; simp at hu; rcases hu with rfl | rfl | rfl <;> rfl) ?b1 (by decide) ?_
       case b1 =>
        have := congrArg List.length HD.out
        rw [List.length_append] at this
        omega
       intro v' w9 hown9 hx9 _
       have HO := Lib.hid (And.intro (show w9.ownsRow w1.heap.size 59 3 v' (D ++ [plainE t.data.toList]).length (elW (D ++ [plainE t.data.toList])) by
        have he : elW [plainE t.data.toList] = [.int .i64 (2000000 + ((c0 : Nat) : Int)), .int .i64 32, .int .i64 2] := by rw [HPF.out]; simp [elW]
        rw [List.length_append, elW_app, he]
        exact hown9) hx9)
       have HDE := Lib.hid (show D ++ [plainE t.data.toList] ++ elems BK mo (t.data.toList.drop wd) = E by rw [← HD.out, HST.out, List.append_assoc]; rfl)
       clear hown9 hx9 HR5 HPF HPE HST
       go_wp2_with fail
       have hms : (t.extract wd t.size).size = t.size - wd := by rw [ByteArray.size_extract, Nat.min_self]
       refine ⟨⟨_, D ++ [plainE t.data.toList], rfl, by rw [hms]; omega, Lib.hid (by rw [extract_all]; exact HDE.out), Lib.hid HO.out.1, Lib.hid HO.out.2⟩, ?_⟩
       show (t.extract wd t.size).size < t.size
       rw [hms]
       omega
      ·have hwq : (((wd : Nat) : Int) == 1) = false := beq_false_of_ne (by omega)
       have HPF := Lib.hid (show plainE t.data.toList = (65536 + r, 32, 2) by rw [HPE.out, if_neg (fun h => hw1 h.2)])
       clear hr1 hw1
       go_wp2_with (at_builtin; refine Hid.out ?_)
       refine Lib.hid ?_
       obtain ⟨i0, hi0, hz0, hz1, hz3⟩ := hHE.out
       refine wpList_app rfl (.tmp 60) (.tmp 63) 28 rfl 59 i0 (.agg #[.int .i64 0, .int .i64 0, .int .i64 0]) 3 24 Tryz.underlying28 hi0 hz0 hz1 hz3 rfl (by decide) rfl HR5.out.1 HR5.out.2 [.int .i64 (65536 + ((r : Nat) : Int)), .int .i64 32, .int .i64 2] rfl rfl (by intro u hu; simp at hu; rcases hu with rfl | rfl | rfl <;> rfl) ?b2 (by decide) ?_
       case b2 =>
        have := congrArg List.length HD.out
        rw [List.length_append] at this
        omega
       intro v' w9 hown9 hx9 _
       have HO := Lib.hid (And.intro (show w9.ownsRow w1.heap.size 59 3 v' (D ++ [plainE t.data.toList]).length (elW (D ++ [plainE t.data.toList])) by
        have he : elW [plainE t.data.toList] = [.int .i64 (65536 + ((r : Nat) : Int)), .int .i64 32, .int .i64 2] := by rw [HPF.out]; simp [elW]
        rw [List.length_append, elW_app, he]
        exact hown9) hx9)
       have HDE := Lib.hid (show D ++ [plainE t.data.toList] ++ elems BK mo (t.data.toList.drop wd) = E by rw [← HD.out, HST.out, List.append_assoc]; rfl)
       clear hown9 hx9 HR5 HPF HPE HST
       go_wp2_with fail
       have hms : (t.extract wd t.size).size = t.size - wd := by rw [ByteArray.size_extract, Nat.min_self]
       refine ⟨⟨_, D ++ [plainE t.data.toList], rfl, by rw [hms]; omega, Lib.hid (by rw [extract_all]; exact HDE.out), Lib.hid HO.out.1, Lib.hid HO.out.2⟩, ?_⟩
       show (t.extract wd t.size).size < t.size
       rw [hms]
       omega
     ·have hrq : (((r : Nat) : Int) == 65533) = false := beq_false_of_ne (by omega)
      have HPF := Lib.hid (show plainE t.data.toList = (65536 + r, 32, 2) by rw [HPE.out, if_neg (fun h => hr1 h.1)])
      clear hr1
      go_wp2_with (at_builtin; refine Hid.out ?_)
      refine Lib.hid ?_
      obtain ⟨i0, hi0, hz0, hz1, hz3⟩ := hHE.out
      refine wpList_app rfl (.tmp 60) (.tmp 63) 28 rfl 59 i0 (.agg #[.int .i64 0, .int .i64 0, .int .i64 0]) 3 24 Tryz.underlying28 hi0 hz0 hz1 hz3 rfl (by decide) rfl HR5.out.1 HR5.out.2 [.int .i64 (65536 + ((r : Nat) : Int)), .int .i64 32, .int .i64 2] rfl rfl (by intro u hu; simp at hu; rcases hu with rfl | rfl | rfl <;> rfl) ?b3 (by decide) ?_
      case b3 =>
       have := congrArg List.length HD.out
       rw [List.length_append] at this
       omega
      intro v' w9 hown9 hx9 _
      have HO := Lib.hid (And.intro (show w9.ownsRow w1.heap.size 59 3 v' (D ++ [plainE t.data.toList]).length (elW (D ++ [plainE t.data.toList])) by
       have he : elW [plainE t.data.toList] = [.int .i64 (65536 + ((r : Nat) : Int)), .int .i64 32, .int .i64 2] := by rw [HPF.out]; simp [elW]
       rw [List.length_append, elW_app, he]
       exact hown9) hx9)
      have HDE := Lib.hid (show D ++ [plainE t.data.toList] ++ elems BK mo (t.data.toList.drop wd) = E by rw [← HD.out, HST.out, List.append_assoc]; rfl)
      clear hown9 hx9 HR5 HPF HPE HST
      go_wp2_with fail
      have hms : (t.extract wd t.size).size = t.size - wd := by rw [ByteArray.size_extract, Nat.min_self]
      refine ⟨⟨_, D ++ [plainE t.data.toList], rfl, by rw [hms]; omega, Lib.hid (by rw [extract_all]; exact HDE.out), Lib.hid HO.out.1, Lib.hid HO.out.2⟩, ?_⟩
      show (t.extract wd t.size).size < t.size
      rw [hms]
      omega
    | succ n =>
     obtain ⟨m, hm⟩ : ∃ m, n + 1 = m := ⟨_, rfl⟩
     have HM := Lib.hid hm
     rw [hm] at hnm hnt HLG ⊢
     have hnI : (0 : Int) < ((m : Nat) : Int) := by omega
     have hnd : decide ((0 : Int) < ((m : Nat) : Int)) = true := decide_eq_true hnI
     have hnT : ((m : Nat) : Int) ≤ (t.size : Nat) := by omega
     obtain ⟨k, hk⟩ : ∃ k, t.extract 0 m = k := ⟨_, rfl⟩
     have hkl : k.data.toList = t.data.toList.take m := by rw [← hk, ext_list, List.drop_zero]
     have hka : k = ⟨(t.data.toList.take m).toArray⟩ := by rw [← hkl]
     obtain ⟨v, b, hlk, hcase⟩ := (HB1.out.ext HXR.out).look HL.out.2.1 HKL.out (k := t.data.toList.take m) (by rw [List.length_take, HTL.out]; omega)
     rw [← hka] at hlk
     have HK := Lib.hid hk
     rcases hcase with ⟨rfl, e, he, hrow⟩ | ⟨rfl, he⟩
     ·have HC := Lib.hid (And.intro he hrow)
      clear hkl hka hm he hrow
      go_wp2_with (at_builtin; refine Hid.out ?_)
      refine Lib.hid ?_
      obtain ⟨i0, hi0, hz0, hz1, hz3⟩ := hHE.out
      have HST := Lib.hid (show elems BK mo t.data.toList = e ++ elems BK mo (t.data.toList.drop m) from elems_some HTN.out (HLG.out.trans (by rw [← HM.out]; exact longest_stop (by rw [HM.out]; exact HC.out.1))))
      have HDE := Lib.hid (show D ++ e ++ elems BK mo (t.data.toList.drop m) = E by rw [← HD.out, HST.out, List.append_assoc])
      have hlen : D.length + e.length ≤ 50000000 := by
       have := congrArg List.length HDE.out
       rw [List.length_append, List.length_append] at this
       omega
      have hmT : m ≤ t.size := hnt
      rcases HC.out.2.2 with ⟨rfl, he0⟩ | ⟨g, cap, cur, rfl, _⟩
      ·obtain rfl : e = [] := List.length_eq_zero_iff.1 he0
       refine wpList_append_own_none rfl (.tmp 36) (.tmp 37) 28 rfl w1.heap.size 59 i0 3 Tryz.underlying28 hi0 u5 D.length (elW D) rfl HROW.out rfl ?_
       have HO := Lib.hid (And.intro (show wr.ownsRow w1.heap.size 59 3 u5 (D ++ []).length (elW (D ++ [])) by rw [List.append_nil]; exact HROW.out) HXR.out)
       clear HROW HLG HC HST
       go_wp2_with fail
       have hms : (t.extract m t.size).size = t.size - m := by rw [ByteArray.size_extract, Nat.min_self]
       refine ⟨⟨_, D ++ [], rfl, by rw [hms]; omega, Lib.hid (by rw [extract_all]; exact HDE.out), Lib.hid HO.out.1, Lib.hid HO.out.2⟩, ?_⟩
       show (t.extract m t.size).size < t.size
       rw [hms]
       have := HM.out
       omega
      ·have hcel := fun j (hj : j < e.length * 3) => HC.out.2.cellAt j hj
       refine wpList_apps rfl (.tmp 36) (.tmp 37) 28 rfl 59 i0 (.agg #[.int .i64 0, .int .i64 0, .int .i64 0]) 3 24 Tryz.underlying28 hi0 hz0 hz1 hz3 rfl (by decide) rfl HROW.out HXR.out (elW e) g 0 e.length cap rfl (elW_len e) ?a1 (elW_one e) ?a2 (by decide) ?_
       case a1 =>
        intro j hj
        have h1 := hcel j (by rw [elW_len] at hj; exact hj)
        rw [Nat.zero_add, h1, List.getElem?_eq_getElem hj]
       case a2 => omega
       intro v' w9 hown9 hx9 _
       have HO := Lib.hid (And.intro (show w9.ownsRow w1.heap.size 59 3 v' (D ++ e).length (elW (D ++ e)) by rw [List.length_append, elW_app]; exact hown9) hx9)
       clear hown9 hx9 hcel HROW HLG HC HST
       go_wp2_with fail
       have hms : (t.extract m t.size).size = t.size - m := by rw [ByteArray.size_extract, Nat.min_self]
       refine ⟨⟨_, D ++ e, rfl, by rw [hms]; omega, Lib.hid (by rw [extract_all]; exact HDE.out), Lib.hid HO.out.1, Lib.hid HO.out.2⟩, ?_⟩
       show (t.extract m t.size).size < t.size
       rw [hms]
       have := HM.out
       omega
     ·have HC := Lib.hid he
      clear hkl hka hm he
      have hm1 : ((m : Nat) : Int) - 1 = ((n : Nat) : Int) := by have := HM.out; omega
      go_wp2_with fail
      exact ⟨⟨rfl, rfl, n, rfl, by have := HM.out; omega, by have := HM.out; omega, Lib.hid (by rw [HLG.out, ← HM.out]; exact longest_go (by rw [HM.out]; exact HC.out)), trivial⟩, by have := HM.out; simp only [intOf]; omega⟩
  ·have h0I : ¬ (0 : Int) < (t.size : Nat) := by omega
   have h0d : decide ((0 : Int) < (t.size : Nat)) = false := decide_eq_false h0I
   have ht : t.data.toList = [] := List.length_eq_zero_iff.1 (by rw [len_eqC]; omega)
   have HDE := Lib.hid (show D = E by have := HD.out; rw [ht, elems_nil, List.append_nil] at this; exact this)
   clear ht HD h0
   go_wp2_with fail
   have HR := Lib.hid (show Wr.ownsRow w1.heap.size 59 3 u5 E.length (elW E) by rw [← HDE.out]; exact HROW.out)
   exact ret_one rfl rfl rfl ⟨_, rfl, by rw [HMO.out, HBK.out, HE.out]; exact own_lower HR.out HX1.out.sz, HX1.out.trans HXR.out⟩
end Go.Proofs.YtokeamebcdhnpaaGreatDoor
end

section
namespace Go.Proofs.YtokeamebcdhnpaaGreatDoor
open Go.RowKit Go.Rp Go.Shelf Go.Maps Go.Cl

/-- A row of elements. -/
def ElRow (w : World) (v : Value) (l : List El) : Prop :=
 (l = [] ∧ v = .slice none 0 0) ∨ ∃ g cap, v = .slice (some ⟨g, 0, none⟩) l.length cap ∧ l.length ≤ cap ∧ ∀ i (h : i < l.length), w.cell? ⟨g, i * 3, none⟩ = some (.int .i64 (l[i].1 : Nat)) ∧ w.cell? ⟨g, i * 3 + 1, none⟩ = some (.int .i64 (l[i].2.1 : Nat)) ∧ w.cell? ⟨g, i * 3 + 2, none⟩ = some (.int .i64 (l[i].2.2 : Nat))
theorem ElRow.opened {w : World} {v : Value} {l : List El} (h : ElRow w v l) : ∃ p cap, v = .slice p l.length cap ∧ l.length ≤ cap ∧ (l ≠ [] → ∃ g, p = some ⟨g, 0, none⟩ ∧ ∀ i (h : i < l.length), w.cell? ⟨g, i * 3, none⟩ = some (.int .i64 (l[i].1 : Nat)) ∧ w.cell? ⟨g, i * 3 + 1, none⟩ = some (.int .i64 (l[i].2.1 : Nat)) ∧ w.cell? ⟨g, i * 3 + 2, none⟩ = some (.int .i64 (l[i].2.2 : Nat))) := by
 rcases h with ⟨rfl, rfl⟩ | ⟨g, cap, rfl, hc, h2⟩
 ·exact ⟨none, 0, rfl, Nat.le_refl _, fun h => absurd rfl h⟩
 ·exact ⟨_, cap, rfl, hc, fun _ => ⟨g, rfl, h2⟩⟩
theorem ElRow.ext {w w' : World} {v : Value} {l : List El} (h : ElRow w v l) (hx : Ext w w') : ElRow w' v l := by
 rcases h with h | ⟨g, cap, e, hc, h3⟩
 ·exact .inl h
 ·exact .inr ⟨g, cap, e, hc, fun i hi => ⟨hx.cell (h3 i hi).1, hx.cell (h3 i hi).2.1, hx.cell (h3 i hi).2.2⟩⟩
theorem elW_at (l : List El) : ∀ i (h : i < l.length), (elW l)[i * 3]? = some (.int .i64 (l[i].1 : Nat)) ∧ (elW l)[i * 3 + 1]? = some (.int .i64 (l[i].2.1 : Nat)) ∧ (elW l)[i * 3 + 2]? = some (.int .i64 (l[i].2.2 : Nat)) := by
 induction l with
 | nil => intro i h; cases h
 | cons x l ih =>
  intro i h
  cases i with
  | zero => exact ⟨rfl, rfl, rfl⟩
  | succ i =>
   have := ih i (by simpa using h)
   rw [show (i + 1) * 3 = i * 3 + 1 + 1 + 1 by omega]
   exact this
theorem ElRow.of_own {w : World} {B : Nat} {v : Value} {l : List El} (h : w.ownsRow B 59 3 v l.length (elW l)) : ElRow w v l := by
 rcases h.2 with ⟨e, h0⟩ | ⟨g, cap, cur, e, _, _, hcap, _⟩
 ·exact .inl ⟨List.length_eq_zero_iff.1 h0, e⟩
 ·refine .inr ⟨g, cap, e, hcap, fun i hi => ?_⟩
  subst e
  obtain ⟨h1, h2, h3⟩ := elW_at l i hi
  exact ⟨(h.cellAt (i * 3) (by omega)).trans h1, (h.cellAt (i * 3 + 1) (by omega)).trans h2, (h.cellAt (i * 3 + 2) (by omega)).trans h3⟩
abbrev ordV (o : Ord) : Value := .agg #[.int .i64 o.level, .bool o.shift, .bool o.back, .bool o.great]
abbrev elA (e : El) : Value := .agg #[.int .i64 (e.1 : Nat), .int .i64 (e.2.1 : Nat), .int .i64 (e.2.2 : Nat)]
theorem c_Check (o : Ord) (w : World) : Calls Tryz.prog 14 #[ordV o] w fun e w' => e = .returned (.int .i64 (if 1 ≤ o.level ∧ o.level ≤ 4 then 0 else 2)) ∧ Ext w w' := by
 by_cases h : 1 ≤ o.level ∧ o.level ≤ 4
 ·have h1 : ¬ o.level < 1 := by omega
  have h2 : ¬ 4 < o.level := by omega
  rw [if_pos h]
  clear h
  go_enter Tryz.func14, Tryz.ntmps14
  go_wp2_with fail
  go_ret
  exact ⟨rfl, (Ext.refl _).alloc _⟩
 ·rw [if_neg h]
  by_cases h1 : o.level < 1
  ·clear h
   go_enter Tryz.func14, Tryz.ntmps14
   go_wp2_with fail
   go_ret
   exact ⟨rfl, (Ext.refl _).alloc _⟩
  ·have h2 : 4 < o.level := by omega
   clear h
   go_enter Tryz.func14, Tryz.ntmps14
   go_wp2_with fail
   go_ret
   exact ⟨rfl, (Ext.refl _).alloc _⟩
theorem c_light (e : El) (w : World) : Calls Tryz.prog 38 #[elA e] w fun x w' => x = .returned (.bool (lightE e)) ∧ Ext w w' := by
 by_cases h1 : 1 ≤ e.1
 ·have h1I : (1 : Int) ≤ (e.1 : Nat) := by omega
  have h1d : decide (1 ≤ e.1) = true := decide_eq_true h1
  by_cases h2 : e.1 ≤ 499
  ·have h2I : ((e.1 : Nat) : Int) ≤ 499 := by omega
   have HE := Lib.hid (show lightE e = true by simp [lightE, h1, h2])
   clear h1 h2 h1d
   go_enter Tryz.func38, Tryz.ntmps38
   go_wp2_with fail
   go_ret
   exact ⟨by rw [HE.out]; rfl, (Ext.refl _).alloc _⟩
  ·have h2I : ¬ ((e.1 : Nat) : Int) ≤ 499 := by omega
   have HE := Lib.hid (show lightE e = false by simp [lightE, h2])
   clear h1 h2 h1d
   go_enter Tryz.func38, Tryz.ntmps38
   go_wp2_with fail
   go_ret
   exact ⟨by rw [HE.out]; rfl, (Ext.refl _).alloc _⟩
 ·have h1I : ¬ (1 : Int) ≤ (e.1 : Nat) := by omega
  have HE := Lib.hid (show lightE e = false by simp [lightE, h1])
  clear h1
  go_enter Tryz.func38, Tryz.ntmps38
  go_wp2_with fail
  go_ret
  exact ⟨by rw [HE.out]; rfl, (Ext.refl _).alloc _⟩
theorem c_third (n : Nat) (o : Ord) (hn : n < 256) (w : World) : Calls Tryz.prog 35 #[.int .i64 (n : Nat), ordV o] w fun x w' => x = .returned (.int .u8 (thirdN o.great n : Nat)) ∧ Ext w w' := by
 obtain ⟨lv, sh, bk, gr⟩ := o
 cases gr with
 | false =>
  have HE := Lib.hid (show thirdN false n = n by simp [thirdN])
  have hnI : ((n : Nat) : Int) < 256 := by omega
  go_enter Tryz.func35, Tryz.ntmps35
  go_wp2_with fail
  go_ret
  exact ⟨by rw [HE.out]; rfl, (Ext.refl _).alloc _⟩
 | true =>
  by_cases h89 : n = 8 ∨ n = 9
  ·rcases h89 with rfl | rfl
   ·go_enter Tryz.func35, Tryz.ntmps35
    go_wp2_with fail
    go_ret
    exact ⟨rfl, (Ext.refl _).alloc _⟩
   ·go_enter Tryz.func35, Tryz.ntmps35
    go_wp2_with fail
    go_ret
    exact ⟨rfl, (Ext.refl _).alloc _⟩
  ·by_cases h12 : n = 1 ∨ n = 2
   ·rcases h12 with rfl | rfl
    ·go_enter Tryz.func35, Tryz.ntmps35
     go_wp2_with fail
     go_ret
     exact ⟨rfl, (Ext.refl _).alloc _⟩
    ·go_enter Tryz.func35, Tryz.ntmps35
     go_wp2_with fail
     go_ret
     exact ⟨rfl, (Ext.refl _).alloc _⟩
   ·have HE := Lib.hid (show thirdN true n = n by simp [thirdN, h89, h12])
    have hnI : ((n : Nat) : Int) < 256 := by omega
    have q8 : (((n : Nat) : Int) == 8) = false := beq_false_of_ne (by omega)
    have q9 : (((n : Nat) : Int) == 9) = false := beq_false_of_ne (by omega)
    have q1 : (((n : Nat) : Int) == 1) = false := beq_false_of_ne (by omega)
    have q2 : (((n : Nat) : Int) == 2) = false := beq_false_of_ne (by omega)
    clear h89 h12
    go_enter Tryz.func35, Tryz.ntmps35
    go_wp2_with fail
    go_ret
    exact ⟨by rw [HE.out]; rfl, (Ext.refl _).alloc _⟩
set_option maxRecDepth 100000 in
set_option maxHeartbeats 4000000 in
theorem c_heavy (v : Value) (l : List El) (o : Ord) (w : World) (h : ElRow w v l) (hl : l.length ≤ 50000000) :
  Calls Tryz.prog 34 #[v, ordV o] w fun e w' => ∃ v', e = .returned v' ∧ ElRow w' v' (heavyL o.shift l) ∧ Ext w w' := by
 obtain ⟨lv, sh, bk, gr⟩ := o
 have HR := Lib.hid h
 obtain ⟨p, cap, rfl, hcap, hc⟩ := h.opened
 have HC := Lib.hid hc
 clear hc
 cases sh with
 | false =>
  go_enter Tryz.func34, Tryz.ntmps34
  go_wp2_with fail
  go_ret
  exact ⟨_, rfl, HR.out.ext ((Ext.refl _).alloc _), (Ext.refl _).alloc _⟩
 | true =>
  have hlI : ((l.length : Nat) : Int) ≤ 50000000 := by omega
  go_enter Tryz.func34, Tryz.ntmps34
  go_wp2_with fail
  have hx0 : Ext w (w.alloc (.cells #[.int .i64 lv, .bool true, .bool bk, .bool gr] 24)) := (Ext.refl _).alloc _
  generalize w.alloc (.cells #[.int .i64 lv, .bool true, .bool bk, .bool gr] 24) = W0 at hx0 ⊢
  have HX0 := Lib.hid hx0
  have hHE : Hid (∃ i0, Tryz.prog.info? 59 = some i0 ∧ i0.zero = some (.agg #[.int .i64 0, .int .i64 0, .int .i64 0]) ∧ i0.size = 3 ∧ i0.bytes = 24) := by
   obtain ⟨i0, hi, hz0, hz1, hz2⟩ := info_parts Tryz.infoEl
   exact ⟨i0, hi, hz0, hz1, hz2⟩
  clear hx0
  go_loopw [5, 6, 15] (fun ov bv iv W => ∃ (i : Nat) (D : List El) (b : Bool), iv = .int .i64 (i : Nat) ∧ i ≤ l.length ∧ bv = .bool b ∧ Hid (D ++ heavyGo b (l.drop i) = heavyGo false l) ∧ Hid (W.ownsRow W0.heap.size 59 3 ov D.length (elW D)) ∧ Hid (Ext W0 W ∧ D.length ≤ i)) (fun _ _ iv _ => l.length + 1 - (intOf iv).toNat)
  case atStart => exact ⟨0, [], false, rfl, by omega, rfl, Lib.hid rfl, Lib.hid (World.ownsRow_nil _ _ _ _), Lib.hid ⟨Ext.refl _, Nat.le_refl _⟩⟩
  case round =>
   obtain ⟨i, D, b, rfl, hi, rfl, HD, HROW, HXR⟩ := hrel
   by_cases hlt : i < l.length
   ·have hI : ((i : Nat) : Int) < (l.length : Nat) := by omega
    have hd : decide (i < l.length) = true := decide_eq_true hlt
    obtain ⟨g, rfl, hcel⟩ := HC.out (by intro e; subst e; simp at hlt)
    obtain ⟨k0, k1, k2⟩ := hcel i hlt
    obtain ⟨x, hx⟩ : ∃ x, l[i] = x := ⟨_, rfl⟩
    have HDR := Lib.hid (show l.drop i = x :: l.drop (i + 1) by rw [← hx]; exact List.drop_eq_getElem_cons hlt)
    rw [hx] at k0 k1 k2
    have e0 := (HX0.out.trans HXR.out.1).cell k0
    have e1 := (HX0.out.trans HXR.out.1).cell k1
    have e2 := (HX0.out.trans HXR.out.1).cell k2
    clear hcel k0 k1 k2 hx
    go_wp2_with fail
    have hxa := (Ext.refl wr).alloc (.cells #[.int .i64 (x.1 : Nat), .int .i64 (x.2.1 : Nat), .int .i64 (x.2.2 : Nat)] 59)
    have hba := World.alloc_heap_new wr (.cells #[.int .i64 (x.1 : Nat), .int .i64 (x.2.1 : Nat), .int .i64 (x.2.2 : Nat)] 59)
    generalize wr.alloc (.cells #[.int .i64 (x.1 : Nat), .int .i64 (x.2.1 : Nat), .int .i64 (x.2.2 : Nat)] 59) = w4 at hxa hba ⊢
    generalize wr.heap.size = eb at hba ⊢
    refine (c_light x w4).mono ?_
    rintro e w5 ⟨rfl, hx5⟩
    have hb5 := hx5.blk hba
    have f0 : w5.cell? ⟨eb, 0, none⟩ = some (.int .i64 (x.1 : Nat)) := (cell_blk hb5 0).trans rfl
    have f1 : w5.cell? ⟨eb, 1, none⟩ = some (.int .i64 (x.2.1 : Nat)) := (cell_blk hb5 1).trans rfl
    have f2 : w5.cell? ⟨eb, 2, none⟩ = some (.int .i64 (x.2.2 : Nat)) := (cell_blk hb5 2).trans rfl
    have HR5 := Lib.hid (And.intro (ownsRow_ext HROW.out (hxa.trans hx5)) (And.intro (HXR.out.1.trans (hxa.trans hx5)) HXR.out.2))
    clear hxa hba hx5 hb5 e0 e1 e2 HROW HXR
    by_cases hl1 : lightE x = true
    ·have HGO := Lib.hid (show heavyGo b (l.drop i) = heavyGo true (l.drop (i + 1)) by rw [HDR.out, heavyGo, if_pos hl1])
     rw [hl1]
     clear hl1 f0 f1 f2
     go_wp2_with fail
     exact ⟨⟨i + 1, D, true, by simp, by omega, rfl, Lib.hid (by rw [← HGO.out]; exact HD.out), Lib.hid HR5.out.1, Lib.hid ⟨HR5.out.2.1, by have := HR5.out.2.2; omega⟩⟩, by simp only [intOf]; omega⟩
    ·have hl2 : lightE x = false := by simpa using hl1
     rw [hl2]
     by_cases hz : x.1 = 0
     ·have hzq : (((x.1 : Nat) : Int) == 0) = true := by rw [hz]; rfl
      have hzI : ((x.1 : Nat) : Int) = 0 := by omega
      cases b with
      | true =>
       have HGO := Lib.hid (show heavyGo true (l.drop i) = heavyGo true (l.drop (i + 1)) by rw [HDR.out, heavyGo, if_neg hl1, if_neg (fun h => h hz), if_pos rfl])
       clear hl1 hl2 hz
       go_wp2_with fail
       exact ⟨⟨i + 1, D, true, by simp, by omega, rfl, Lib.hid (by rw [← HGO.out]; exact HD.out), Lib.hid HR5.out.1, Lib.hid ⟨HR5.out.2.1, by have := HR5.out.2.2; omega⟩⟩, by simp only [intOf]; omega⟩
      | false =>
       have HGO := Lib.hid (show heavyGo false (l.drop i) = x :: heavyGo false (l.drop (i + 1)) by rw [HDR.out, heavyGo, if_neg hl1, if_neg (fun h => h hz), if_neg (by decide)])
       have HZ := Lib.hid (show elW [x] = [.int .i64 0, .int .i64 (x.2.1 : Nat), .int .i64 (x.2.2 : Nat)] by simp [elW, hz])
       clear hl1 hl2 hz
       go_wp2_with (at_builtin; refine Hid.out ?_)
       refine Lib.hid ?_
       obtain ⟨i0, hi0, hz0, hz1, hz3⟩ := hHE.out
       refine wpList_app rfl (.tmp 33) (.tmp 35) 28 rfl 59 i0 (.agg #[.int .i64 0, .int .i64 0, .int .i64 0]) 3 24 Tryz.underlying28 hi0 hz0 hz1 hz3 rfl (by decide) rfl HR5.out.1 HR5.out.2.1 [.int .i64 0, .int .i64 (x.2.1 : Nat), .int .i64 (x.2.2 : Nat)] rfl rfl (by intro u hu; simp at hu; rcases hu with rfl | rfl | rfl <;> rfl) ?b1 (by decide) ?_
       case b1 => have := HR5.out.2.2; omega
       intro v' w9 hown9 hx9 _
       have HO := Lib.hid (And.intro (show w9.ownsRow W0.heap.size 59 3 v' (D ++ [x]).length (elW (D ++ [x])) by rw [List.length_append, elW_app, HZ.out]; exact hown9) hx9)
       have HLE := Lib.hid (show (D ++ [x]).length ≤ i + 1 by rw [List.length_append]; have := HR5.out.2.2; simp; omega)
       clear hown9 hx9 HR5
       go_wp2_with fail
       exact ⟨⟨i + 1, D ++ [x], false, by simp, by omega, rfl, Lib.hid (by have := HD.out; rw [HGO.out] at this; rw [List.append_assoc]; exact this), Lib.hid HO.out.1, Lib.hid ⟨HO.out.2, HLE.out⟩⟩, by simp only [intOf]; omega⟩
     ·have hzq : (((x.1 : Nat) : Int) == 0) = false := beq_false_of_ne (by omega)
      have hzI : ¬ ((x.1 : Nat) : Int) = 0 := by omega
      have HGO := Lib.hid (show heavyGo b (l.drop i) = x :: heavyGo false (l.drop (i + 1)) by rw [HDR.out, heavyGo, if_neg hl1, if_pos hz])
      have HZ := Lib.hid (show elW [x] = [.int .i64 (x.1 : Nat), .int .i64 (x.2.1 : Nat), .int .i64 (x.2.2 : Nat)] from rfl)
      clear hl1 hl2 hz
      go_wp2_with (at_builtin; refine Hid.out ?_)
      refine Lib.hid ?_
      obtain ⟨i0, hi0, hz0, hz1, hz3⟩ := hHE.out
      refine wpList_app rfl (.tmp 26) (.tmp 28) 28 rfl 59 i0 (.agg #[.int .i64 0, .int .i64 0, .int .i64 0]) 3 24 Tryz.underlying28 hi0 hz0 hz1 hz3 rfl (by decide) rfl HR5.out.1 HR5.out.2.1 [.int .i64 (x.1 : Nat), .int .i64 (x.2.1 : Nat), .int .i64 (x.2.2 : Nat)] rfl rfl (by intro u hu; simp at hu; rcases hu with rfl | rfl | rfl <;> rfl) ?b2 (by decide) ?_
      case b2 => have := HR5.out.2.2; omega
      intro v' w9 hown9 hx9 _
      have HO := Lib.hid (And.intro (show w9.ownsRow W0.heap.size 59 3 v' (D ++ [x]).length (elW (D ++ [x])) by rw [List.length_append, elW_app, HZ.out]; exact hown9) hx9)
      have HLE := Lib.hid (show (D ++ [x]).length ≤ i + 1 by rw [List.length_append]; have := HR5.out.2.2; simp; omega)
      clear hown9 hx9 HR5
      go_wp2_with fail
      exact ⟨⟨i + 1, D ++ [x], false, by simp, by omega, rfl, Lib.hid (by have := HD.out; rw [HGO.out] at this; rw [List.append_assoc]; exact this), Lib.hid HO.out.1, Lib.hid ⟨HO.out.2, HLE.out⟩⟩, by simp only [intOf]; omega⟩
   ·have hI : ¬ ((i : Nat) : Int) < (l.length : Nat) := by omega
    have hd : decide (i < l.length) = false := decide_eq_false hlt
    obtain rfl : i = l.length := by omega
    have HDE := Lib.hid (show D = heavyGo false l by have := HD.out; rw [List.drop_length, heavyGo, List.append_nil] at this; exact this)
    clear hlt hi
    go_wp2_with fail
    have HEE := Lib.hid (show ElRow wr u5 (heavyL true l) by
     have h1 := ElRow.of_own HROW.out
     rw [HDE.out] at h1
     exact h1)
    exact ret_one rfl rfl rfl ⟨_, rfl, HEE.out, HX0.out.trans HXR.out.1⟩
end Go.Proofs.YtokeamebcdhnpaaGreatDoor
end

section
namespace Go.Proofs.YtokeamebcdhnpaaGreatDoor
open Go.RowKit Go.Rp Go.Shelf Go.Maps Go.Cl

/-- Elements in a block, behind nothing, ahead of others. -/
def ArrC (W : World) (g : Nat) (R : List El) (post : List Value) : Prop := W.heap[g]? = some (.cells (elW R ++ post).toArray 59 (0, 0))
theorem ArrC.get {W : World} {g : Nat} {post : List Value} {R : List El} (h : ArrC W g R post) {i : Nat} (hi : i < R.length) :
  W.cell? ⟨g, i * 3, none⟩ = some (.int .i64 (R[i].1 : Nat)) ∧ W.cell? ⟨g, i * 3 + 1, none⟩ = some (.int .i64 (R[i].2.1 : Nat)) ∧ W.cell? ⟨g, i * 3 + 2, none⟩ = some (.int .i64 (R[i].2.2 : Nat)) := by
 obtain ⟨h1, h2, h3⟩ := elW_at R i hi
 have hl := elW_len R
 refine ⟨?_, ?_, ?_⟩
 ·rw [cell_blk h, List.getElem?_toArray, List.getElem?_append_left (by omega), h1]
 ·rw [cell_blk h, List.getElem?_toArray, List.getElem?_append_left (by omega), h2]
 ·rw [cell_blk h, List.getElem?_toArray, List.getElem?_append_left (by omega), h3]
theorem ArrC.of_own {W : World} {B : Nat} {v : Value} {l : List El} (h : W.ownsRow B 59 3 v l.length (elW l)) (hne : l ≠ []) : ∃ g cap post, v = .slice (some ⟨g, 0, none⟩) l.length cap ∧ l.length ≤ cap ∧ B ≤ g ∧ ArrC W g l post := by
 rcases h.2 with ⟨e, h0⟩ | ⟨g, cap, cur, e, hb, hgb, hcap, _, hcs, htk⟩
 ·exact absurd (List.length_eq_zero_iff.1 h0) hne
 ·refine ⟨g, cap, cur.toList.drop (l.length * 3), e, hcap, hb, ?_⟩
  unfold ArrC
  rw [hgb, ← htk]
  simp
def setC (W : World) (g i : Nat) (x : El) : World := ((W.setCell ⟨g, i * 3, none⟩ (.int .i64 (x.1 : Nat))).setCell ⟨g, i * 3 + 1, none⟩ (.int .i64 (x.2.1 : Nat))).setCell ⟨g, i * 3 + 2, none⟩ (.int .i64 (x.2.2 : Nat))
theorem elW_set (m : List El) : ∀ (i : Nat) (x : El), i < m.length → (((elW m).set (i * 3) (.int .i64 (x.1 : Nat))).set (i * 3 + 1) (.int .i64 (x.2.1 : Nat))).set (i * 3 + 2) (.int .i64 (x.2.2 : Nat)) = elW (m.set i x) := by
 induction m with
 | nil => intro i x h; cases h
 | cons y m ih =>
  intro i x h
  cases i with
  | zero => rfl
  | succ i =>
   have := ih i x (by simpa using h)
   show (((_ :: _ :: _ :: elW m).set _ _).set _ _).set _ _ = _ :: _ :: _ :: elW (m.set i x)
   rw [← this, show (i + 1) * 3 = i * 3 + 1 + 1 + 1 by omega, show i * 3 + 1 + 1 + 1 + 1 = (i * 3 + 1) + 1 + 1 + 1 by omega, show i * 3 + 1 + 1 + 1 + 2 = (i * 3 + 2) + 1 + 1 + 1 by omega]
   rfl
theorem ArrC.set {W : World} {g : Nat} {post : List Value} {R : List El} (h : ArrC W g R post) {i : Nat} (hi : i < R.length) (x : El) : ArrC (setC W g i x) g (R.set i x) post := by
 have hl := elW_len R
 have h1 := set_blk (set_blk (set_blk h (i * 3) (.int .i64 (x.1 : Nat))) (i * 3 + 1) (.int .i64 (x.2.1 : Nat))) (i * 3 + 2) (.int .i64 (x.2.2 : Nat))
 unfold ArrC setC
 rw [h1]
 have e : (((elW R ++ post).set (i * 3) (.int .i64 (x.1 : Nat))).set (i * 3 + 1) (.int .i64 (x.2.1 : Nat))).set (i * 3 + 2) (.int .i64 (x.2.2 : Nat)) = elW (R.set i x) ++ post := by
  rw [List.set_append_left _ _ (by omega), List.set_append_left _ _ (by simp; omega), List.set_append_left _ _ (by simp; omega), elW_set R i x hi]
 rw [← e]
 simp
theorem setC_ext {W0 W : World} (h : Ext W0 W) {g : Nat} (hg : W0.heap.size ≤ g) (i : Nat) (x : El) : Ext W0 (setC W g i x) := ((h.setCell hg _).setCell hg _).setCell hg _
theorem wpList_storeC {ops : Array Oper} {rest : List Oper} {o : Oper} {a : Act} {w : World} {Q : Exit → Act → World → Prop} (hg : o.guard = none) (x y : Operand) (ho : o.op = .store 59 x y)
  {g i : Nat} {post : List Value} {R : List El} (r : El) (hx : a.eval x = .pointer (some ⟨g, i * 3, none⟩)) (hy : a.eval y = elA r) (h : ArrC w g R post) (hn : i < R.length)
  (hK : wpList Tryz.prog ops Q rest (a.put o.dst undef) (setC w g i r)) : wpList Tryz.prog ops Q (o :: rest) a w := by
 refine wpList_plain hg fun K' hK' => ?_
 obtain ⟨g1, g2, g3⟩ := h.get hn
 have hrun : (Instr.storeAt 59 (.pointer (some ⟨g, i * 3, none⟩)) (elA r)).run Tryz.prog w = .ok () (setC w g i r) := by
  simp only [Instr.storeAt, Instr.sureAddr, Sem.run_bind, Sem.run_pure, Result.andThen]
  have hst := run_storeCells_cells (P := Tryz.prog) g (i * 3) [.int .i64 (r.1 : Nat), .int .i64 (r.2.1 : Nat), .int .i64 (r.2.2 : Nat)] 0 w (fun j hj => by
   have hj3 : j < 3 := hj
   match j, hj3 with
   | 0, _ => exact congrArg Option.isSome g1
   | 1, _ => exact congrArg Option.isSome g2
   | 2, _ => exact congrArg Option.isSome g3) (fun j _ => frz_blk h _) (by intro v hv; simp at hv; rcases hv with rfl | rfl | rfl <;> rfl)
  have hv : (sizeOf 59).run Tryz.prog w = .ok 3 w := Tryz.sizeOf59 w
  unfold storeVar
  simp only [Sem.run_bind, hv, Result.andThen]
  have e : (elA r).cells.size = 3 := rfl
  simp only [e, ne_eq, not_true_eq_false, if_false]
  exact hst
 unfold Oper.wp
 simp [execOp, ho, hx, hy, hrun, Result.andThen]
 exact hK' _ _ hK
set_option maxRecDepth 100000 in
set_option maxHeartbeats 4000000 in
theorem c_Clone (v : Value) (l : List El) (w : World) (h : ElRow w v l) (hl : l.length ≤ 50000000) :
  Calls Tryz.prog 36 #[v] w fun e w' => ∃ v', e = .returned v' ∧ w'.ownsRow w.heap.size 59 3 v' l.length (elW l) ∧ Ext w w' := by
 have q22 : ∀ (w : World) (a : Option Addr) (n c n' c' : Nat), (binOp .eql 28 (.slice a n c) (.slice none n' c')).run Tryz.prog w = .ok (.bool a.isNone) w := fun w a n c n' c' => Lib.run_eql_slice_nil w _ _ a n c n' c' Tryz.underlying28
 obtain ⟨i0, hi0, hz0, hz1, hz3⟩ := info_parts Tryz.infoEl
 rcases h with ⟨rfl, rfl⟩ | ⟨g, cap, rfl, hcap, hcel⟩
 ·go_enter Tryz.func36, Tryz.ntmps36
  go_wp2_with fail
  go_ret
  exact ⟨_, rfl, World.ownsRow_nil _ _ _ _, Ext.refl _⟩
 ·go_enter Tryz.func36, Tryz.ntmps36
  go_wp2_with (at_builtin; refine Hid.out ?_)
  refine Lib.hid ?_
  refine wpList_apps rfl (.tmp 5) (.tmp 6) 28 rfl 59 i0 (.agg #[.int .i64 0, .int .i64 0, .int .i64 0]) 3 24 Tryz.underlying28 hi0 hz0 hz1 hz3 rfl (by decide) rfl (W0 := w) (World.ownsRow_made w #[] 0 (Nat.le_refl _) (Nat.zero_le _) rfl) ((Ext.refl _).alloc _) (elW l) g 0 l.length cap rfl (elW_len l) ?a1 (elW_one l) ?a2 (by decide) ?_
  case a1 =>
   intro j hj
   rw [elW_len] at hj
   obtain ⟨q, r, rfl, hr⟩ : ∃ q r, j = q * 3 + r ∧ r < 3 := ⟨j / 3, j % 3, by omega, by omega⟩
   have hq : q < l.length := by omega
   obtain ⟨h1, h2, h3⟩ := hcel q hq
   obtain ⟨k1, k2, k3⟩ := elW_at l q hq
   rw [Nat.zero_add]
   match r, hr with
   | 0, _ =>
    rw [← List.getElem?_eq_getElem, Nat.add_zero, k1]
    exact ((Ext.refl w).alloc _).cell h1
   | 1, _ =>
    rw [← List.getElem?_eq_getElem, k2]
    exact ((Ext.refl w).alloc _).cell h2
   | 2, _ =>
    rw [← List.getElem?_eq_getElem, k3]
    exact ((Ext.refl w).alloc _).cell h3
  case a2 => omega
  intro v' w9 hown9 hx9 _
  have HO := Lib.hid (And.intro (show w9.ownsRow w.heap.size 59 3 v' l.length (elW l) by simpa using hown9) hx9)
  clear hown9 hx9 hcel
  go_wp2_with fail
  exact ret_one rfl rfl rfl ⟨_, rfl, HO.out.1, HO.out.2⟩
/-- The ends of a row have changed places, so many. -/
def Rev (l R : List El) (i : Nat) : Prop := R.length = l.length ∧ ∀ k (h : k < l.length) (h' : k < R.length), R[k] = if k < i ∨ l.length - 1 - i < k then l[l.length - 1 - k]'(by omega) else l[k]
theorem Rev.start (l : List El) : Rev l l 0 := ⟨rfl, fun k h h' => by rw [if_neg (by omega)]⟩
theorem Rev.step {l R : List El} {i b : Nat} {x y : El} (h : Rev l R i) (hb : b = l.length - 1 - i) (hib : i < b) (hi : i < R.length) (hbR : b < R.length) (hx : R[i] = x) (hy : R[b] = y) : Rev l ((R.set i y).set b x) (i + 1) := by
 obtain ⟨h1, h2⟩ := h
 refine ⟨by simp [h1], fun k hk hk' => ?_⟩
 have e1 := h2 i (by omega) hi
 have e2 := h2 b (by omega) hbR
 rw [if_neg (by omega), hx] at e1
 rw [if_neg (by omega), hy] at e2
 rw [List.getElem_set]
 by_cases hkb : b = k
 ·subst hkb
  rw [if_pos rfl, if_pos (by omega), e1]
  congr 1
  omega
 ·rw [if_neg hkb, List.getElem_set]
  by_cases hki : i = k
  ·subst hki
   rw [if_pos rfl, if_pos (by omega), e2]
   congr 1
  ·rw [if_neg hki, h2 k hk (by omega)]
   by_cases hc : k < i ∨ l.length - 1 - i < k
   ·rw [if_pos hc, if_pos (by omega)]
   ·rw [if_neg hc, if_neg (by omega)]
theorem Rev.all {l R : List El} {i : Nat} (h : Rev l R i) (hi : (l.length : Int) - 1 - i ≤ i) : R = l.reverse := by
 obtain ⟨h1, h2⟩ := h
 refine List.ext_getElem (by simp [h1]) (fun k hk hk' => ?_)
 rw [h2 k (by omega) hk, List.getElem_reverse]
 by_cases hc : k < i ∨ l.length - 1 - i < k
 ·rw [if_pos hc]
 ·rw [if_neg hc]
  congr 1
  omega
set_option maxRecDepth 100000 in
set_option maxHeartbeats 4000000 in
theorem c_Reverse (g cap : Nat) (post : List Value) (l : List El) (w W0 : World) (h : ArrC w g l post) (hx : Ext W0 w) (hg : W0.heap.size ≤ g) (hl : l.length ≤ 50000000) (_hcap : l.length ≤ cap) :
  Calls Tryz.prog 37 #[.slice (some ⟨g, 0, none⟩) l.length cap] w fun e w' => e = .returned (.tuple #[]) ∧ ArrC w' g l.reverse post ∧ Ext W0 w' := by
 have hlI : ((l.length : Nat) : Int) ≤ 50000000 := by omega
 go_enter Tryz.func37, Tryz.ntmps37
 go_wp2_with fail
 go_loopw [2, 3] (fun iv jv W => ∃ (i : Nat) (z : Int) (R : List El), iv = .int .i64 (i : Nat) ∧ jv = .int .i64 z ∧ Hid (z = (l.length : Nat) - 1 - (i : Nat)) ∧ i ≤ l.length ∧ Hid (Rev l R i) ∧ Hid (ArrC W g R post) ∧ Hid (Ext W0 W)) (fun iv _ _ => l.length + 1 - (intOf iv).toNat)
 case atStart => exact ⟨0, _, l, rfl, rfl, Lib.hid (by omega), by omega, Lib.hid (Rev.start l), Lib.hid h, Lib.hid hx⟩
 case round =>
  obtain ⟨i, z, R, rfl, rfl, HZ, hi, HR, HA, HX⟩ := hrel
  by_cases hlt : ((i : Nat) : Int) < z
  ·obtain ⟨b, rfl⟩ : ∃ b : Nat, z = (b : Nat) := ⟨z.toNat, by omega⟩
   have hzb := HZ.out
   have hb1 : b = l.length - 1 - i := by omega
   have hbl : b < l.length := by omega
   have hib : i < b := by omega
   have hRl : R.length = l.length := HR.out.1
   have hI2 : ((i : Nat) : Int) < (l.length : Nat) := by omega
   have hB2 : ((b : Nat) : Int) < (l.length : Nat) := by omega
   have hB3 : ((b : Nat) : Int) ≤ 50000000 := by omega
   have hI3 : ((i : Nat) : Int) ≤ 50000000 := by omega
   have hiR : i < R.length := by omega
   have hbR : b < R.length := by omega
   obtain ⟨c0, c1, c2⟩ := HA.out.get hiR
   obtain ⟨d0, d1, d2⟩ := HA.out.get hbR
   obtain ⟨x, hxx⟩ : ∃ x, R[i] = x := ⟨_, rfl⟩
   obtain ⟨y, hyy⟩ : ∃ y, R[b] = y := ⟨_, rfl⟩
   have HSW := Lib.hid (show Rev l ((R.set i y).set b x) (i + 1) from HR.out.step hb1 hib hiR hbR hxx hyy)
   rw [hxx] at c0 c1 c2
   rw [hyy] at d0 d1 d2
   have HIB := Lib.hid (And.intro hiR (show b < (R.set i y).length by rw [List.length_set]; exact hbR))
   have y0 : ∀ w', EOn (fun _ => True) wr w' → w'.cell? ⟨g, b * 3, none⟩ = some (.int .i64 (y.1 : Nat)) := fun w' hx => hx.cell trivial d0
   have y1 : ∀ w', EOn (fun _ => True) wr w' → w'.cell? ⟨g, b * 3 + 1, none⟩ = some (.int .i64 (y.2.1 : Nat)) := fun w' hx => hx.cell trivial d1
   have y2 : ∀ w', EOn (fun _ => True) wr w' → w'.cell? ⟨g, b * 3 + 2, none⟩ = some (.int .i64 (y.2.2 : Nat)) := fun w' hx => hx.cell trivial d2
   have z0 : ∀ w', EOn (fun _ => True) wr w' → w'.cell? ⟨g, i * 3, none⟩ = some (.int .i64 (x.1 : Nat)) := fun w' hx => hx.cell trivial c0
   have z1 : ∀ w', EOn (fun _ => True) wr w' → w'.cell? ⟨g, i * 3 + 1, none⟩ = some (.int .i64 (x.2.1 : Nat)) := fun w' hx => hx.cell trivial c1
   have z2 : ∀ w', EOn (fun _ => True) wr w' → w'.cell? ⟨g, i * 3 + 2, none⟩ = some (.int .i64 (x.2.2 : Nat)) := fun w' hx => hx.cell trivial c2
   have HBI := Lib.hid (And.intro hzb hib)
   clear c0 c1 c2 d0 d1 d2 hxx hyy hiR hbR hRl hb1 hbl hzb hib
   go_wp2_with fail
   refine wp_reck (fun _ => True) [0, 1, 2, 3, 4, 5, 6, 8, 9, 10] [7, 11, 12, 13, 14, 15] [true, true] (by kernel_rfl) (by kernel_rfl) (by simp only [List.map_cons, List.map_nil, nth]; rfl) (by simp only [List.map_cons, List.map_nil, nth]; rfl) (fun wq hxq => ?_)
   repeat first
    | refine wpP_move' ?_
    | refine wpP_val' ?_
   refine wpP_end ?_
   replace y0 := fun w' hx => y0 w' (EOn.trans (EOn.of_ext hxq) hx)
   replace y1 := fun w' hx => y1 w' (EOn.trans (EOn.of_ext hxq) hx)
   replace y2 := fun w' hx => y2 w' (EOn.trans (EOn.of_ext hxq) hx)
   replace z0 := fun w' hx => z0 w' (EOn.trans (EOn.of_ext hxq) hx)
   replace z1 := fun w' hx => z1 w' (EOn.trans (EOn.of_ext hxq) hx)
   replace z2 := fun w' hx => z2 w' (EOn.trans (EOn.of_ext hxq) hx)
   have HXq := Lib.hid hxq
   clear hxq
   repeat first
    | refine wpG_move' ?_
    | refine wpG_assign' ?_
    | refine wpG_val' ?_
    | refine wpG_no' ?_
   refine wpG_end (fun w6 hx6 => ?_)
   have HA6 := Lib.hid (show ArrC w6 g R post from (HXq.out.trans hx6).blk HA.out)
   have HX6 := Lib.hid (HX.out.trans (HXq.out.trans hx6))
   clear hx6 y0 y1 y2 z0 z1 z2 HA HX HXq
   have HS1 := Lib.hid (HA6.out.set HIB.out.1 y)
   have HS2 := Lib.hid (HS1.out.set HIB.out.2 x)
   have HE2 := Lib.hid (setC_ext (setC_ext HX6.out hg i y) hg b x)
   go_wp2_with (first | (refine wpList_storeC rfl (.tmp 26) (.tmp 21) rfl (i := i) y rfl rfl HA6.out HIB.out.1 ?_; obtain ⟨W1, hW1⟩ : ∃ W, setC w6 g i y = W := ⟨_, rfl⟩; rw [hW1] at HS1 HS2 HE2 ⊢; clear hW1 HA6) | (refine wpList_storeC rfl (.tmp 27) (.tmp 25) rfl (i := b) x rfl rfl HS1.out HIB.out.2 ?_; obtain ⟨W2, hW2⟩ : ∃ W, setC W1 g b x = W := ⟨_, rfl⟩; rw [hW2] at HS2 HE2 ⊢; clear hW2 HS1))
   refine gQ_normal ?_
   go_wp2_with fail
   exact ⟨⟨i + 1, _, _, by simp, rfl, Lib.hid (by have := HBI.out; omega), by have := HBI.out; omega, HSW, HS2, HE2⟩, by have := HBI.out; simp only [intOf]; omega⟩
  ·have HEND := Lib.hid (show ArrC wr g l.reverse post from by
    rw [← HR.out.all (by have := HZ.out; omega)]
    exact HA.out)
   clear HR HA
   go_wp2_with fail
   refine bodyPost_end (results_none rfl _ _ _) rfl ?_
   exact ⟨rfl, HEND.out, HX.out⟩
set_option maxRecDepth 100000 in
set_option maxHeartbeats 4000000 in
theorem c_Rev0 (w : World) : Calls Tryz.prog 37 #[.slice none 0 0] w fun e w' => e = .returned (.tuple #[]) ∧ w' = w := by
 go_enter Tryz.func37, Tryz.ntmps37
 go_wp2_with fail
 go_loopw [2, 3] (fun iv jv W => iv = .int .i64 0 ∧ jv = .int .i64 (-1) ∧ W = w) (fun _ _ _ => 0)
 case atStart => exact ⟨rfl, rfl, rfl⟩
 case round =>
  obtain ⟨rfl, rfl, rfl⟩ := hrel
  go_wp2_with fail
  refine bodyPost_end (results_none rfl _ _ _) rfl ?_
  exact ⟨rfl, rfl⟩
/-- A row of the call's own is turned round. -/
theorem c_Rev (v : Value) (l : List El) (w W0 : World) (h : w.ownsRow W0.heap.size 59 3 v l.length (elW l)) (hx : Ext W0 w) (hl : l.length ≤ 50000000) :
  Calls Tryz.prog 37 #[v] w fun e w' => e = .returned (.tuple #[]) ∧ ElRow w' v l.reverse ∧ Ext W0 w' := by
 by_cases hne : l = []
 ·subst hne
  rcases h.2 with ⟨rfl, _⟩ | ⟨g, cap, cur, rfl, hb, hgb, hcap, _⟩
  ·refine (c_Rev0 w).mono ?_
   rintro e w' ⟨rfl, rfl⟩
   exact ⟨rfl, .inl ⟨rfl, rfl⟩, hx⟩
  ·refine (c_Reverse g cap cur.toList [] w W0 (by unfold ArrC; rw [hgb]; simp [elW]) hx hb hl hcap).mono ?_
   rintro e w' ⟨rfl, h2, h3⟩
   exact ⟨rfl, .inr ⟨g, cap, rfl, hcap, fun i hi => by cases hi⟩, h3⟩
 ·obtain ⟨g, cap, post, rfl, hcap, hb, ha⟩ := ArrC.of_own h hne
  refine (c_Reverse g cap post l w W0 ha hx hb hl hcap).mono ?_
  rintro e w' ⟨rfl, h2, h3⟩
  refine ⟨rfl, .inr ⟨g, cap, by rw [List.length_reverse], by rw [List.length_reverse]; exact hcap, fun i hi => ?_⟩, h3⟩
  exact h2.get hi
end Go.Proofs.YtokeamebcdhnpaaGreatDoor
end
