/-
 The reference: a table read, line by line. The reference: its tables; the line of a rune; the order. The reference: into what a rune falls apart. The reference: a rune falls apart wholly.
-/
import Derived.Test.YtokeamebcdhnpaaGreatDoorWalkIJ
import Derived.Test.YtokeamebcdhnpaaGreatDoorApp
import Derived.Test.YtokeamebcdhnpaaGreatDoorChk
import Derived.Test.YtokeamebcdhnpaaGreatDoorWalkKL
section
namespace Go.Proofs.YtokeamebcdhnpaaGreatDoor
open Go.RowKit Go.Rp Go.Shelf Go.Maps

/-- A digit's number. -/
def digR (c : Nat) : Nat := if 65 ≤ c then c - 55 else c - 48
/-- The numbers of a line. -/
def hexR (dec : Bool) : List Nat → Nat → Nat → List Nat
 | [], n, _ => [n]
 | c :: t, n, k => if c = 32 then n :: hexR dec t 0 (k + 1) else hexR dec t ((if dec = true ∧ k = 3 then 10 else 16) * n + digR c) k
/-- Each byte is a blank or a digit, no number is too great. -/
def hexOk (dec : Bool) : List Nat → Nat → Nat → Prop
 | [], n, _ => n < 16777216
 | c :: t, n, k => n < 16777216 ∧ (if c = 32 then hexOk dec t 0 (k + 1) else (48 ≤ c ∧ c < 91 ∧ hexOk dec t ((if dec = true ∧ k = 3 then 10 else 16) * n + digR c) k))
theorem hexR_len (dec : Bool) : ∀ (l : List Nat) (n k : Nat), (hexR dec l n k).length ≤ l.length + 1
 | [], _, _ => Nat.le_refl _
 | c :: t, n, k => by
  rw [hexR]
  split
  ·have := hexR_len dec t 0 (k + 1)
   simp only [List.length_cons]
   omega
  ·have := hexR_len dec t ((if dec = true ∧ k = 3 then 10 else 16) * n + digR c) k
   simp only [List.length_cons]
   omega
theorem byts_get (s : ByteArray) (i : Nat) (h : i < s.size) : (s.data.toList.map UInt8.toNat).drop i = (s[i]'h).toNat :: (s.data.toList.map UInt8.toNat).drop (i + 1) := by
 have h2 : i < (s.data.toList.map UInt8.toNat).length := by simpa using h
 rw [List.drop_eq_getElem_cons h2]
 congr 1
 simp
 rfl
def byts (s : ByteArray) : List Nat := s.data.toList.map UInt8.toNat
theorem byts_len (s : ByteArray) : (byts s).length = s.size := by simp [byts]
set_option maxRecDepth 100000 in
set_option maxHeartbeats 8000000 in
theorem c_rhex (s : ByteArray) (dec : Bool) (w : World) (hs : s.size ≤ 1000000) (hk : hexOk dec (byts s) 0 1) :
  Calls Tryz.prog 70 #[.string s, .bool dec] w fun e w' => ∃ v, e = .returned v ∧ w'.ownsRow w.heap.size 21 1 v (hexR dec (byts s) 0 1).length (i32s ((hexR dec (byts s) 0 1).map fun n => ((n : Nat) : Int))) ∧ Ext w w' := by
 obtain ⟨i0, hi0, hz0, hz1, hz3⟩ := info_parts Tryz.infoI
 have hsI : ((s.size : Nat) : Int) ≤ 1000000 := by omega
 have HK := Lib.hid hk
 clear hk
 go_enter Tryz.func70, Tryz.ntmps70
 go_wp2_with fail
 go_loopw [5, 6, 7, 8] (fun lv nv kv iv W => ∃ (i n k : Nat) (D : List Nat), iv = .int .i64 (i : Nat) ∧ i ≤ s.size ∧ nv = .int .i32 (n : Nat) ∧ kv = .int .i64 (k : Nat) ∧ k ≤ i + 1 ∧ Hid (hexR dec (byts s) 0 1 = D ++ hexR dec ((byts s).drop i) n k ∧ D.length ≤ i ∧ hexOk dec ((byts s).drop i) n k) ∧ W.ownsRow w.heap.size 21 1 lv D.length (i32s (D.map fun n => ((n : Nat) : Int))) ∧ Ext w W) (fun _ _ _ iv _ => s.size + 1 - (intOf iv).toNat)
 case atStart => exact ⟨0, 0, 1, [], rfl, by omega, rfl, rfl, by omega, Lib.hid ⟨rfl, by simp, HK.out⟩, World.ownsRow_nil _ _ _ _, Ext.refl _⟩
 case round =>
  obtain ⟨i, n, k, D, rfl, hi, rfl, rfl, hk1, HG, hrow, hx⟩ := hrel
  by_cases hlt : i < s.size
  ·have hd : decide (i < s.size) = true := decide_eq_true hlt
   have hI : ((i : Nat) : Int) < (s.size : Nat) := by omega
   obtain ⟨hg1, hg2, hg3⟩ := HG.out
   have hdr : (byts s).drop i = (s[i]'hlt).toNat :: (byts s).drop (i + 1) := byts_get s i hlt
   have hc256 := (s[i]'hlt).toNat_lt
   rw [hdr] at hg1 hg3
   obtain ⟨c, hc⟩ : ∃ c : Nat, (s[i]'hlt).toNat = c := ⟨_, rfl⟩
   rw [hc] at hg1 hg3 hc256
   have HROW := Lib.hid (And.intro hrow hx)
   clear hrow hx hdr
   rw [hexR] at hg1
   rw [hexOk] at hg3
   by_cases h32 : c = 32
   ·rw [if_pos h32] at hg1 hg3
    have hbq : (((c : Nat) : Int) == 32) = true := by rw [h32]; rfl
    have HG2 := Lib.hid (And.intro hg1 (And.intro hg2 hg3))
    have hDl : D.length ≤ 1000000 := by omega
    clear hg1 hg2 hg3 hc256 h32 HG
    go_wp2_with (at_builtin; refine Hid.out ?_)
    refine Lib.hid ?_
    refine wpList_app rfl (.tmp 21) (.tmp 23) 55 rfl 21 i0 (.int .i32 0) 1 4 Tryz.underlying55 hi0 hz0 hz1 hz3 rfl (by decide) rfl HROW.out.1 HROW.out.2 [.int .i32 (n : Nat)] rfl rfl (by intro u hu; simp at hu; subst hu; rfl) (by omega) (by decide) ?_
    intro v' w4 hown4 hx4 _
    have HO4 := Lib.hid (And.intro hown4 hx4)
    clear hown4 hx4 HROW
    go_wp2_with fail
    refine ⟨⟨i + 1, 0, k + 1, D ++ [n], by simp, by omega, rfl, by simp, by omega, Lib.hid ⟨by rw [HG2.out.1]; simp, by rw [List.length_append]; have := HG2.out.2.1; simp; omega, HG2.out.2.2.2⟩, by rw [List.length_append, List.map_append, i32s, List.map_append]; exact HO4.out.1, HO4.out.2⟩, by simp [intOf]; omega⟩
   ·rw [if_neg h32] at hg1 hg3
    obtain ⟨hn, h48, h91, hok⟩ := hg3
    have hbq : (((c : Nat) : Int) == 32) = false := beq_false_of_ne (by omega)
    have hnI : ((n : Nat) : Int) < 16777216 := by omega
    have hcI : ((c : Nat) : Int) < 91 := by omega
    have hcJ : (48 : Int) ≤ ((c : Nat) : Int) := by omega
    clear hn HG hc256 h32
    by_cases h65 : 65 ≤ c
    ·have hdd : digR c = c - 55 := if_pos h65
     have hd65 : decide (65 ≤ ((c : Nat) : Int)) = true := decide_eq_true (by omega)
     have h65I : (65 : Int) ≤ ((c : Nat) : Int) := by omega
     cases dec with
     | false =>
      rw [if_neg (by simp)] at hg1 hok
      have HE := Lib.hid (show (16 : Int) * (n : Nat) + (((c : Nat) : Int) - 65 + 10) = ((16 * n + digR c : Nat) : Int) by omega)
      have HG2 := Lib.hid (And.intro hg1 (And.intro hg2 hok))
      clear hg1 hg2 hok hdd h65
      go_wp2_with fail
      refine ⟨⟨i + 1, 16 * n + digR c, k, D, by simp, by omega, by rw [← HE.out], rfl, by omega, Lib.hid ⟨HG2.out.1, by have := HG2.out.2.1; omega, HG2.out.2.2⟩, HROW.out.1, HROW.out.2⟩, by simp [intOf]; omega⟩
     | true =>
      by_cases h3 : k = 3
      ·rw [if_pos ⟨rfl, h3⟩] at hg1 hok
       have hb3 : (((k : Nat) : Int) == 3) = true := by rw [h3]; rfl
       clear h3
       have HE := Lib.hid (show (10 : Int) * (n : Nat) + (((c : Nat) : Int) - 65 + 10) = ((10 * n + digR c : Nat) : Int) by omega)
       have HG2 := Lib.hid (And.intro hg1 (And.intro hg2 hok))
       clear hg1 hg2 hok hdd h65
       go_wp2_with fail
       refine ⟨⟨i + 1, 10 * n + digR c, k, D, by simp, by omega, by rw [← HE.out], rfl, by omega, Lib.hid ⟨HG2.out.1, by have := HG2.out.2.1; omega, HG2.out.2.2⟩, HROW.out.1, HROW.out.2⟩, by simp [intOf]; omega⟩
      ·rw [if_neg (fun h => h3 h.2)] at hg1 hok
       have hb3 : (((k : Nat) : Int) == 3) = false := beq_false_of_ne (by omega)
       clear h3
       have HE := Lib.hid (show (16 : Int) * (n : Nat) + (((c : Nat) : Int) - 65 + 10) = ((16 * n + digR c : Nat) : Int) by omega)
       have HG2 := Lib.hid (And.intro hg1 (And.intro hg2 hok))
       clear hg1 hg2 hok hdd h65
       go_wp2_with fail
       refine ⟨⟨i + 1, 16 * n + digR c, k, D, by simp, by omega, by rw [← HE.out], rfl, by omega, Lib.hid ⟨HG2.out.1, by have := HG2.out.2.1; omega, HG2.out.2.2⟩, HROW.out.1, HROW.out.2⟩, by simp [intOf]; omega⟩
    ·have hdd : digR c = c - 48 := if_neg h65
     have hd65 : decide (65 ≤ ((c : Nat) : Int)) = false := decide_eq_false (by omega)
     have h65I : ¬ (65 : Int) ≤ ((c : Nat) : Int) := by omega
     cases dec with
     | false =>
      rw [if_neg (by simp)] at hg1 hok
      have HE := Lib.hid (show (16 : Int) * (n : Nat) + (((c : Nat) : Int) - 48) = ((16 * n + digR c : Nat) : Int) by omega)
      have HG2 := Lib.hid (And.intro hg1 (And.intro hg2 hok))
      clear hg1 hg2 hok hdd h65
      go_wp2_with fail
      refine ⟨⟨i + 1, 16 * n + digR c, k, D, by simp, by omega, by rw [← HE.out], rfl, by omega, Lib.hid ⟨HG2.out.1, by have := HG2.out.2.1; omega, HG2.out.2.2⟩, HROW.out.1, HROW.out.2⟩, by simp [intOf]; omega⟩
     | true =>
      by_cases h3 : k = 3
      ·rw [if_pos ⟨rfl, h3⟩] at hg1 hok
       have hb3 : (((k : Nat) : Int) == 3) = true := by rw [h3]; rfl
       clear h3
       have HE := Lib.hid (show (10 : Int) * (n : Nat) + (((c : Nat) : Int) - 48) = ((10 * n + digR c : Nat) : Int) by omega)
       have HG2 := Lib.hid (And.intro hg1 (And.intro hg2 hok))
       clear hg1 hg2 hok hdd h65
       go_wp2_with fail
       refine ⟨⟨i + 1, 10 * n + digR c, k, D, by simp, by omega, by rw [← HE.out], rfl, by omega, Lib.hid ⟨HG2.out.1, by have := HG2.out.2.1; omega, HG2.out.2.2⟩, HROW.out.1, HROW.out.2⟩, by simp [intOf]; omega⟩
      ·rw [if_neg (fun h => h3 h.2)] at hg1 hok
       have hb3 : (((k : Nat) : Int) == 3) = false := beq_false_of_ne (by omega)
       clear h3
       have HE := Lib.hid (show (16 : Int) * (n : Nat) + (((c : Nat) : Int) - 48) = ((16 * n + digR c : Nat) : Int) by omega)
       have HG2 := Lib.hid (And.intro hg1 (And.intro hg2 hok))
       clear hg1 hg2 hok hdd h65
       go_wp2_with fail
       refine ⟨⟨i + 1, 16 * n + digR c, k, D, by simp, by omega, by rw [← HE.out], rfl, by omega, Lib.hid ⟨HG2.out.1, by have := HG2.out.2.1; omega, HG2.out.2.2⟩, HROW.out.1, HROW.out.2⟩, by simp [intOf]; omega⟩
  ·have hd : decide (i < s.size) = false := decide_eq_false hlt
   have hI : ¬ ((i : Nat) : Int) < (s.size : Nat) := by omega
   have HROW := Lib.hid (And.intro hrow hx)
   have hDl : D.length ≤ 1000000 := by have := HG.out.2.1; omega
   have hdrop : (byts s).drop i = [] := List.drop_eq_nil_of_le (by rw [byts_len]; omega)
   have hgE := HG.out.1
   rw [hdrop, hexR] at hgE
   have HGE := Lib.hid hgE
   clear hrow hx hdrop hgE HG
   go_wp2_with (at_builtin; refine Hid.out ?_)
   refine Lib.hid ?_
   refine wpList_app rfl (.tmp 52) (.tmp 54) 55 rfl 21 i0 (.int .i32 0) 1 4 Tryz.underlying55 hi0 hz0 hz1 hz3 rfl (by decide) rfl HROW.out.1 HROW.out.2 [.int .i32 (n : Nat)] rfl rfl (by intro u hu; simp at hu; subst hu; rfl) (by omega) (by decide) ?_
   intro v' w4 hown4 hx4 _
   have HO4 := Lib.hid (And.intro hown4 hx4)
   clear hown4 hx4 HROW
   go_wp2_with fail
   go_ret
   rw [HGE.out, List.length_append, List.map_append, i32s, List.map_append]
   exact ⟨_, rfl, HO4.out.1, HO4.out.2⟩

theorem toListX (s : ByteArray) (i j : Nat) : (s.extract i j).data.toList = (s.data.toList.drop i).take (j - i) := by
 rw [ByteArray.data_extract, Array.toList_extract, List.extract_eq_take_drop]
/-- The lines' numbers. -/
def rdR (dec : Bool) : List Nat → List Nat → List (List Nat)
 | [], _ => []
 | c :: t, cur => if c = 10 then hexR dec cur 0 1 :: rdR dec t [] else rdR dec t (cur ++ [c])
def rdOk (dec : Bool) : List Nat → List Nat → Prop
 | [], _ => True
 | c :: t, cur => if c = 10 then hexOk dec cur 0 1 ∧ rdOk dec t [] else rdOk dec t (cur ++ [c])
theorem hexR_ne (dec : Bool) : ∀ (l : List Nat) (n k : Nat), 1 ≤ (hexR dec l n k).length
 | [], _, _ => Nat.le_refl _
 | c :: t, n, k => by
  rw [hexR]
  split
  ·simp
  ·exact hexR_ne dec t _ k
def zs (l : List Nat) : List Value := i32s (l.map fun n => ((n : Nat) : Int))
theorem zs_get (l : List Nat) (k : Nat) (h : k < l.length) : (zs l)[k]? = some (.int .i32 (l[k] : Nat)) := by
 unfold zs i32s
 rw [List.getElem?_map, List.getElem?_map, List.getElem?_eq_getElem h]
 rfl
/-- Lines: each a number and a slice of the others. -/
def Lns (n : Nat) (W : World) (vs : List Value) (L : List (List Nat)) : Prop :=
 vs.length = L.length * 2 ∧ ∀ i (h : i < L.length), ∃ g q c cur, n ≤ g ∧ vs[i * 2]? = some (.int .i32 (L[i].headD 0 : Nat)) ∧ (vs[i * 2 + 1]? = some (.slice q (L[i].length - 1) c) ∧ (2 ≤ L[i].length → q = some ⟨g, 1, none⟩)) ∧
  W.heap[g]? = some (.cells cur 21 (0, 0)) ∧ ∀ k (hk : k < L[i].length), cur[k]? = some (.int .i32 (L[i][k] : Nat))
theorem Lns.kept {n : Nat} {W W' : World} {vs : List Value} {L : List (List Nat)} (h : Lns n W vs L) (hk : KeepTy 123 W W') : Lns n W' vs L :=
 ⟨h.1, fun i hi => let ⟨g, q, c, cur, h1, h2, h3, h4, h5⟩ := h.2 i hi; ⟨g, q, c, cur, h1, h2, h3, hk g _ h4 (fun c z e => by simp at e), h5⟩⟩
theorem hexR_le (dec : Bool) (t : ByteArray) : (hexR dec (byts t) 0 1).length ≤ t.size + 1 := by
 have := hexR_len dec (byts t) 0 1
 rw [byts_len] at this
 exact this
theorem infoLn : (Tryz.prog.info? 123).map (fun i => (i.zero, i.size, i.bytes)) = some (some (.agg #[.int .i32 0, .slice none 0 0]), 2, 32) := by kernel_rfl
theorem run_rest32 (g n c : Nat) (_hc : n + 1 ≤ c) (w : World) : (Instr.slice 55 (.slice (some ⟨g, 0, none⟩) (n + 1) c) (some (.int .i64 1)) none none).run Tryz.prog w = .ok (.slice (if c = 1 then some ⟨g, 0, none⟩ else some ⟨g, 1, none⟩) n (c - 1)) w := by
 go_simp
 intro h
 exfalso
 omega
set_option maxRecDepth 100000 in
set_option maxHeartbeats 8000000 in
theorem c_rread (s : ByteArray) (dec : Bool) (w : World) (hs : s.size ≤ 1000000) (hk : rdOk dec (byts s) []) :
  Calls Tryz.prog 50 #[.string s, .bool dec] w fun e w' => ∃ v vs, e = .returned v ∧ w'.ownsRow w.heap.size 123 2 v (rdR dec (byts s) []).length vs ∧ Lns w.heap.size w' vs (rdR dec (byts s) []) ∧ Ext w w' := by
 obtain ⟨i0, hi0, hz0, hz1, hz3⟩ := info_parts infoLn
 have hsI : ((s.size : Nat) : Int) ≤ 1000000 := by omega
 have HK := Lib.hid hk
 clear hk
 go_enter Tryz.func50, Tryz.ntmps50
 go_wp2_with fail
 go_loopw [5, 6, 7] (fun lv fv iv W => ∃ (i f : Nat) (D : List (List Nat)) (vs : List Value), iv = .int .i64 (i : Nat) ∧ i ≤ s.size ∧ fv = .int .i64 (f : Nat) ∧ f ≤ i ∧ Hid (rdR dec (byts s) [] = D ++ rdR dec ((byts s).drop i) (((byts s).drop f).take (i - f)) ∧ D.length ≤ i ∧ rdOk dec ((byts s).drop i) (((byts s).drop f).take (i - f))) ∧ W.ownsRow w.heap.size 123 2 lv D.length vs ∧ Lns w.heap.size W vs D ∧ Ext w W) (fun _ _ iv _ => s.size + 1 - (intOf iv).toNat)
 case atStart => exact ⟨0, 0, [], [], rfl, by omega, rfl, by omega, Lib.hid ⟨rfl, by simp, HK.out⟩, World.ownsRow_nil _ _ _ _, ⟨rfl, fun i h => by simp at h⟩, Ext.refl _⟩
 case round =>
  obtain ⟨i, f, D, vs, rfl, hi, rfl, hf, HG, hrow, hlns, hx⟩ := hrel
  by_cases hlt : i < s.size
  ·have hd : decide (i < s.size) = true := decide_eq_true hlt
   have hI : ((i : Nat) : Int) < (s.size : Nat) := by omega
   obtain ⟨hg1, hg2, hg3⟩ := HG.out
   have hdr : (byts s).drop i = (s[i]'hlt).toNat :: (byts s).drop (i + 1) := byts_get s i hlt
   have hcur : ((byts s).drop f).take (i + 1 - f) = ((byts s).drop f).take (i - f) ++ [(s[i]'hlt).toNat] := by
    rw [show i + 1 - f = (i - f) + 1 by omega, List.take_add_one, List.getElem?_drop, show f + (i - f) = i by omega]
    have : (byts s)[i]? = some (s[i]'hlt).toNat := by
     have h2 := congrArg (fun l => l[0]?) hdr
     simpa using h2
    rw [this]
    rfl
   rw [hdr] at hg1 hg3
   obtain ⟨c, hc⟩ : ∃ c : Nat, (s[i]'hlt).toNat = c := ⟨_, rfl⟩
   rw [hc] at hg1 hg3 hcur
   have HROW := Lib.hid (And.intro hrow (And.intro hlns hx))
   clear hrow hx hdr hlns
   rw [rdR] at hg1
   rw [rdOk] at hg3
   by_cases h10 : c = 10
   ·rw [if_pos h10] at hg1 hg3
    have hbq : (((c : Nat) : Int) == 10) = true := by rw [h10]; rfl
    have HG2 := Lib.hid (And.intro hg1 (And.intro hg2 hg3))
    have hDl : D.length ≤ 1000000 := by omega
    have hfI : ((f : Nat) : Int) ≤ (i : Nat) := by omega
    obtain ⟨t, ht⟩ : ∃ t, s.extract f i = t := ⟨_, rfl⟩
    have htb : byts t = ((byts s).drop f).take (i - f) := by
     rw [← ht]
     unfold byts
     rw [toListX, List.map_take, List.map_drop]
    have hts : t.size ≤ 1000000 := by rw [← byts_len, htb, List.length_take]; omega
    rw [← htb] at hg1 hg3
    have HX := Lib.hid (fun w2 => c_rhex t dec w2 hts hg3.1)
    have HGT := Lib.hid (And.intro hg1 hg3.2)
    clear hg1 hg2 hg3 h10 HG htb hcur hts
    go_wp2_with fail
    refine (HX.out _).mono ?_
    rintro e w3 ⟨v3, rfl, hown3, hx3⟩
    obtain ⟨N, hN⟩ : ∃ N, hexR dec (byts t) 0 1 = N := ⟨_, rfl⟩
    have hNl := hexR_ne dec (byts t) 0 1
    rw [hN] at hown3 hNl
    have HN := Lib.hid hN
    obtain ⟨p3, c3, rfl⟩ := own_slice hown3
    obtain ⟨n0, N1, rfl⟩ : ∃ n0 N1, N = n0 :: N1 := by
     cases N with
     | nil => simp at hNl
     | cons a b => exact ⟨a, b, rfl⟩
    have hblk : ∃ g cur, p3 = some ⟨g, 0, none⟩ ∧ w.heap.size ≤ g ∧ w3.heap[g]? = some (.cells cur 21 (0, 0)) ∧ N1.length + 1 ≤ c3 ∧ ∀ k (hk : k < (n0 :: N1).length), cur[k]? = some (.int .i32 ((n0 :: N1)[k] : Nat)) := by
     rcases hown3.2 with ⟨e1, _⟩ | ⟨g, cap, cur, e1, hb, hgb, hcap, _, _, htk⟩
     ·cases e1
     ·cases e1
      refine ⟨g, cur, rfl, Nat.le_trans HROW.out.2.2.sz hb, hgb, hcap, fun k hk => ?_⟩
      have h1 : (zs (n0 :: N1))[k]? = some (.int .i32 ((n0 :: N1)[k] : Nat)) := zs_get (n0 :: N1) k hk
      rw [show zs (n0 :: N1) = _ from htk.symm, List.getElem?_take, if_pos (by omega)] at h1
      rw [← h1]
      simp
    obtain ⟨g3, cur3, rfl, hg3, hb3, hcap3, hcur3⟩ := hblk
    obtain ⟨q3, hq3⟩ : ∃ q : Option Addr, (if c3 = 1 then some ⟨g3, 0, none⟩ else some ⟨g3, 1, none⟩ : Option Addr) = q := ⟨_, rfl⟩
    have hq31 : 2 ≤ (n0 :: N1).length → q3 = some ⟨g3, 1, none⟩ := fun h => by
     simp only [List.length_cons] at h
     rw [← hq3, if_neg (by omega)]
    have hsl := fun w' => run_rest32 g3 N1.length c3 hcap3 w'
    rw [hq3] at hsl
    have hlnT : N1.length ≤ t.size := by
     have := hexR_le dec t
     rw [hN] at this
     simpa using this
    have hbt : t.size ≤ 1000000 := by
     rw [← ht, ByteArray.size_extract]
     omega
    have hrow3 := ownsRow_ext HROW.out.1 hx3
    have hlns3 := HROW.out.2.1.kept (KeepTy.of_ext hx3)
    have hx03 := Ext.trans HROW.out.2.2 hx3
    have hcl : ∀ w', EOn (fun a => a.block = g3) w3 w' → w'.cell? ⟨g3, 0, none⟩ = some (.int .i32 (n0 : Nat)) := fun w' hx => hx.cell rfl ((cell_blk hb3 0).trans (hcur3 0 (by simp)))
    have HR3 := Lib.hid (And.intro hrow3 (And.intro hlns3 (And.intro hx03 (And.intro hb3 (And.intro hcur3 hg3)))))
    have HQ := Lib.hid (And.intro hq31 (And.intro hlnT hbt))
    have hN1 : (N1.length : Int) ≤ 1000000 := by omega
    clear hown3 hN hNl hb3 hcur3 hrow3 hlns3 hx03 HROW HX ht hq3 hq31 hlnT hbt hcap3
    go_wp2_with fail
    refine wp_lexN ((fun a => a.block = g3)) [true, true, true, true, true, true, true, false, false] (by kernel_rfl) (by kernel_rfl) ?_
    repeat first
     | refine wpG_move' ?_
     | refine wpG_assign' ?_
     | refine wpG_val' ?_
     | refine wpG_no' ?_
    refine wpG_do (by rfl) (fun w4 hx4 K hK => ?_)
    go_wp2_with fail
    refine ⟨EOn.of_ext ((Ext.refl w4).alloc _), ?_⟩
    have hx34 := hx4.alloc (.cells #[.int .i32 (n0 : Nat), .slice q3 N1.length (c3 - 1)] 123)
    have hnew := World.alloc_heap_new w4 (.cells #[.int .i32 (n0 : Nat), .slice q3 N1.length (c3 - 1)] 123)
    generalize w4.alloc (.cells #[.int .i32 (n0 : Nat), .slice q3 N1.length (c3 - 1)] 123) = w5 at hx34 hnew ⊢
    generalize w4.heap.size = gb at hnew ⊢
    refine wpG_apps rfl (fun a w h => by cases h.1) (.tmp 25) (.tmp 32) 76 rfl 123 i0 (.agg #[.int .i32 0, .slice none 0 0]) 2 32 Tryz.underlying76 hi0 hz0 hz1 hz3 rfl (by decide) rfl HR3.out.1 HR3.out.2.2.1 hx34 [.int .i32 (n0 : Nat), .slice q3 N1.length (c3 - 1)] gb 0 1 1 rfl rfl ?c1 (by intro u hu; simp at hu; rcases hu with rfl | rfl <;> rfl) ?c2 (by omega) (by decide) ?_
    case c1 =>
     intro j hj
     match j, hj with
     | 0, _ => exact (cell_blk hnew 0).trans rfl
     | 1, _ => exact (cell_blk hnew 1).trans rfl
    case c2 =>
     intro ad hS hlt c z e
     have := hx34.blk HR3.out.2.2.2.1
     rw [← hS, e] at this
     simp at this
    intro v' w6 hown6 hx06 hk6
    have hlns6 : Lns w.heap.size w6 (vs ++ [.int .i32 (n0 : Nat), .slice q3 N1.length (c3 - 1)]) (D ++ [n0 :: N1]) := by
     have hk36 := (KeepTy.of_ext (e := 123) hx34).trans hk6
     have h1 := HR3.out.2.1.kept hk36
     have hb6 := hk36 g3 _ HR3.out.2.2.2.1 (fun c z e => by simp at e)
     refine ⟨by rw [List.length_append, List.length_append, h1.1]; simp; omega, fun j hj => ?_⟩
     by_cases hjD : j < D.length
     ·obtain ⟨g, q, c, cur, a1, a2, a3, a4, a5⟩ := h1.2 j hjD
      have hl := h1.1
      rw [List.getElem_append_left hjD]
      exact ⟨g, q, c, cur, a1, by rw [List.getElem?_append_left (by omega)]; exact a2, ⟨by rw [List.getElem?_append_left (by omega)]; exact a3.1, a3.2⟩, a4, a5⟩
     ·have hjE : j = D.length := by simp at hj; omega
      subst hjE
      rw [List.getElem_append_right (by omega)]
      simp only [Nat.sub_self, List.getElem_cons_zero]
      refine ⟨g3, q3, c3 - 1, cur3, HR3.out.2.2.2.2.2, ?_, ⟨?_, HQ.out.1⟩, hb6, HR3.out.2.2.2.2.1⟩
      ·rw [List.getElem?_append_right (by have := h1.1; omega), h1.1, Nat.sub_self]; rfl
      ·rw [List.getElem?_append_right (by have := h1.1; omega), h1.1, show D.length * 2 + 1 - D.length * 2 = 1 by omega]; rfl
    have HO6 := Lib.hid (And.intro hown6 (And.intro hlns6 hx06))
    clear hown6 hlns6 hx06 hk6 hnew hx34 HR3
    refine wpG_end (fun w7 hx7 => ?_)
    go_wp2_with fail
    refine gQ_normal ⟨rfl, ?_⟩
    go_wp2_with fail
    refine ⟨⟨i + 1, i + 1, D ++ [n0 :: N1], vs ++ [.int .i32 (n0 : Nat), .slice q3 N1.length (c3 - 1)], by simp, by omega, by simp, by omega, Lib.hid ⟨?_, ?_, ?_⟩, ?_, HO6.out.2.1.kept (KeepTy.of_ext hx7), HO6.out.2.2.trans hx7⟩, by simp [intOf]; omega⟩
    ·rw [HGT.out.1, HN.out, Nat.sub_self, List.take_zero]
     simp
    ·have := HG2.out.2.1
     simp
     omega
    ·rw [Nat.sub_self, List.take_zero]
     exact HGT.out.2
    ·rw [List.length_append]
     exact ownsRow_ext HO6.out.1 hx7
   ·rw [if_neg h10] at hg1 hg3
    have hbq : (((c : Nat) : Int) == 10) = false := beq_false_of_ne (by omega)
    have HG2 := Lib.hid (And.intro hg1 (And.intro hg2 hg3))
    have HCUR := Lib.hid hcur
    clear hg1 hg2 hg3 h10 HG hcur
    go_wp2_with fail
    exact ⟨⟨i + 1, f, D, vs, by simp, by omega, rfl, by omega, Lib.hid ⟨by rw [HCUR.out]; exact HG2.out.1, by have := HG2.out.2.1; omega, by rw [HCUR.out]; exact HG2.out.2.2⟩, HROW.out.1, HROW.out.2.1, HROW.out.2.2⟩, by simp [intOf]; omega⟩
  ·have hd : decide (i < s.size) = false := decide_eq_false hlt
   have hI : ¬ ((i : Nat) : Int) < (s.size : Nat) := by omega
   have HROW := Lib.hid (And.intro hrow (And.intro hlns hx))
   have hgE := HG.out.1
   rw [show (byts s).drop i = [] from List.drop_eq_nil_of_le (by rw [byts_len]; omega), rdR, List.append_nil] at hgE
   have HGE := Lib.hid hgE
   clear hrow hx hlns hgE HG
   go_wp2_with fail
   go_ret
   rw [HGE.out]
   exact ⟨_, rfl, _, HROW.out.1, HROW.out.2.1, HROW.out.2.2⟩
end Go.Proofs.YtokeamebcdhnpaaGreatDoor
end

section
namespace Go.Proofs.YtokeamebcdhnpaaGreatDoor
open Go.RowKit Go.Rp Go.Shelf Go.Maps

/-- A slice of numbers behind the first cell of a block. -/
def RowAt (W : World) (v : Value) (l : List Nat) : Prop :=
 ∃ q c, v = .slice q l.length c ∧ (l ≠ [] → ∃ g, q = some ⟨g, 1, none⟩ ∧ ∀ k (hk : k < l.length), W.cell? ⟨g, 1 + k, none⟩ = some (.int .i32 (l[k] : Nat)))
theorem RowAt.mono {W W' : World} {v : Value} {l : List Nat} (h : RowAt W v l) (hx : Ext W W') : RowAt W' v l := by
 obtain ⟨q, c, rfl, h2⟩ := h
 refine ⟨q, c, rfl, fun hne => ?_⟩
 obtain ⟨g, rfl, hc⟩ := h2 hne
 exact ⟨g, rfl, fun k hk => hx.cell (hc k hk)⟩
/-- A table as it is read. -/
def LTab (W : World) (v : Value) (L : List (List Nat)) : Prop :=
 ∃ p cap, v = .slice p L.length cap ∧ (L ≠ [] → ∃ b, p = some ⟨b, 0, none⟩ ∧ ∀ i (h : i < L.length), ∃ x, W.cell? ⟨b, i * 2, none⟩ = some (.int .i32 (L[i].headD 0 : Nat)) ∧ W.cell? ⟨b, i * 2 + 1, none⟩ = some x ∧ RowAt W x L[i].tail)
theorem LTab.mono {W W' : World} {v : Value} {L : List (List Nat)} (h : LTab W v L) (hx : Ext W W') : LTab W' v L := by
 obtain ⟨p, cap, rfl, h2⟩ := h
 refine ⟨p, cap, rfl, fun hne => ?_⟩
 obtain ⟨b, rfl, hc⟩ := h2 hne
 refine ⟨b, rfl, fun i hi => ?_⟩
 obtain ⟨x, h1, h3, h4⟩ := hc i hi
 exact ⟨x, hx.cell h1, hx.cell h3, h4.mono hx⟩
theorem ltab_of {W : World} {n m : Nat} {v : Value} {L : List (List Nat)} {vs : List Value} (h : W.ownsRow n 123 2 v L.length vs) (hl : Lns m W vs L) : LTab W v L := by
 obtain ⟨p, cap, rfl⟩ := own_slice h
 refine ⟨p, cap, rfl, fun hne => ?_⟩
 obtain ⟨b, rfl, _, _, hc⟩ := own_at h (List.length_pos_iff.2 hne)
 refine ⟨b, rfl, fun i hi => ?_⟩
 obtain ⟨g, q, c, cur, h1, h2, ⟨h3, h3'⟩, h4, h5⟩ := hl.2 i hi
 refine ⟨_, (hc (i * 2) (by omega)).trans h2, (hc (i * 2 + 1) (by omega)).trans h3, q, c, by rw [List.length_tail], fun hne2 => ⟨g, h3' ?_, fun k hk => ?_⟩⟩
 ·have : 0 < L[i].tail.length := List.length_pos_iff.2 hne2
  rw [List.length_tail] at this
  omega
 ·have hk' : k + 1 < L[i].length := by rw [List.length_tail] at hk; omega
  rw [List.getElem_tail, show 1 + k = k + 1 by omega]
  exact (cell_blk h4 (k + 1)).trans (h5 (k + 1) hk')
/-- The line of a number. -/
def lookL : List (List Nat) → Int → Option (List Nat)
 | [], _ => none
 | x :: t, r => if ((x.headD 0 : Nat) : Int) = r then some x.tail else lookL t r
theorem lookL_drop {L : List (List Nat)} {r : Int} {i : Nat} (h : i < L.length) : lookL (L.drop i) r = if ((L[i].headD 0 : Nat) : Int) = r then some L[i].tail else lookL (L.drop (i + 1)) r := by
 rw [List.drop_eq_getElem_cons h, lookL]
set_option maxRecDepth 100000 in
set_option maxHeartbeats 4000000 in
theorem c_rfind (v : Value) (L : List (List Nat)) (r : Int) (w : World) (h : LTab w v L) (hL : L.length ≤ 1000000) :
  Calls Tryz.prog 109 #[v, .int .i32 r] w fun e w' => ∃ x, e = .returned (.tuple #[x, .bool (lookL L r).isSome]) ∧ RowAt w x ((lookL L r).getD []) ∧ w' = w := by
 obtain ⟨p, cap, rfl, hc⟩ := h
 have HC := Lib.hid hc
 clear hc
 go_enter Tryz.func109, Tryz.ntmps109
 go_wp2_with fail
 go_loop [6] (fun iv => ∃ i : Nat, iv = .int .i64 (i : Nat) ∧ i ≤ L.length ∧ Hid (lookL L r = lookL (L.drop i) r)) (fun iv => L.length + 1 - (intOf iv).toNat)
 case atStart => exact ⟨0, rfl, by omega, Lib.hid rfl⟩
 case round =>
  obtain ⟨i, rfl, hi, HG⟩ := hrel
  by_cases hlt : i < L.length
  ·have hd : decide (i < L.length) = true := decide_eq_true hlt
   have hI : ((i : Nat) : Int) < (L.length : Nat) := by omega
   obtain ⟨b, rfl, hcell⟩ := HC.out (by intro e; subst e; simp at hlt)
   obtain ⟨x, h1, h2, h3⟩ := hcell i hlt
   have hg := HG.out
   rw [lookL_drop hlt] at hg
   obtain ⟨n, hn⟩ : ∃ n : Nat, L[i].headD 0 = n := ⟨_, rfl⟩
   obtain ⟨T, hT⟩ : ∃ T, L[i].tail = T := ⟨_, rfl⟩
   rw [hn, hT] at hg
   rw [hn] at h1
   rw [hT] at h3
   by_cases hr : ((n : Nat) : Int) = r
   ·rw [if_pos hr] at hg
    have hbq : (((n : Nat) : Int) == r) = true := by rw [hr]; simp
    have HG2 := Lib.hid (And.intro hg h3)
    obtain ⟨q, c, rfl, _⟩ := h3
    clear hg HG hcell hn hr hT
    go_wp2_with fail
    refine ret_two rfl rfl rfl rfl ⟨.slice q T.length c, ?_, ?_, rfl⟩
    ·rw [HG2.out.1]; rfl
    ·rw [HG2.out.1]; exact HG2.out.2
   ·rw [if_neg hr] at hg
    have hbq : (((n : Nat) : Int) == r) = false := beq_false_of_ne hr
    have HG2 := Lib.hid hg
    clear hg HG hcell hn hr h3 hT
    go_wp2_with fail
    exact ⟨⟨i + 1, by simp, by omega, HG2⟩, by simp [intOf]; omega⟩
  ·have hd : decide (i < L.length) = false := decide_eq_false hlt
   have hI : ¬ ((i : Nat) : Int) < (L.length : Nat) := by omega
   have hg := HG.out
   rw [List.drop_eq_nil_of_le (by omega), lookL] at hg
   have HG2 := Lib.hid hg
   clear hg HG
   go_wp2_with fail
   refine ret_two rfl rfl rfl rfl ⟨.slice none 0 0, ?_, ?_, rfl⟩
   ·rw [HG2.out]; rfl
   ·rw [HG2.out]; exact ⟨none, 0, rfl, fun h => absurd rfl h⟩
/-- The tables' lines. -/
noncomputable def rA : List (List Nat) := rdR false (byts textA) []
noncomputable def rK : List (List Nat) := rdR false (byts textK) []
noncomputable def rX : List (List Nat) := rdR false (byts textX) []
noncomputable def rO : List (List Nat) := rdR true (byts textO) []
def len3 (l : List (List Nat)) : Bool := l.all fun x => Nat.beq x.length 3 && Nat.ble (x.getD 2 0) 255
theorem rO3 : len3 rO = true := by kernel_rfl
theorem rLens : (Nat.ble rA.length 1000 && Nat.ble rK.length 1000 && Nat.ble rX.length 1000 && Nat.ble rO.length 1000) = true := by kernel_rfl
theorem rLen : rA.length ≤ 1000 ∧ rK.length ≤ 1000 ∧ rX.length ≤ 1000 ∧ rO.length ≤ 1000 := by
 have h := rLens
 generalize rA.length = a at *
 generalize rK.length = b at *
 generalize rX.length = c at *
 generalize rO.length = d at *
 simp only [Bool.and_eq_true] at h
 exact ⟨Nat.le_of_ble_eq_true h.1.1.1, Nat.le_of_ble_eq_true h.1.1.2, Nat.le_of_ble_eq_true h.1.2, Nat.le_of_ble_eq_true h.2⟩
/-- The reference's tables. -/
structure RTab (W : World) (tB : Nat) : Prop where
 ex : ∃ vA vK vX vO, W.heap[tB]? = some (.cells #[vA, vK, vX, vO] 79 (0, 0)) ∧ LTab W vA rA ∧ LTab W vK rK ∧ LTab W vX rX ∧ LTab W vO rO
theorem RTab.mono {W W' : World} {tB : Nat} (h : RTab W tB) (hx : Ext W W') : RTab W' tB := by
 obtain ⟨vA, vK, vX, vO, h1, h2, h3, h4, h5⟩ := h.ex
 exact ⟨vA, vK, vX, vO, hx.blk h1, h2.mono hx, h3.mono hx, h4.mono hx, h5.mono hx⟩
def ordR : List (List Nat) → Int → Nat
 | [], _ => 0
 | x :: t, r => if ((x.headD 0 : Nat) : Int) ≤ r ∧ r ≤ ((x.tail.headD 0 : Nat) : Int) then x.tail.getD 1 0 else ordR t r
theorem ordR_drop {L : List (List Nat)} {r : Int} {i : Nat} (h : i < L.length) : ordR (L.drop i) r = if ((L[i].headD 0 : Nat) : Int) ≤ r ∧ r ≤ ((L[i].tail.headD 0 : Nat) : Int) then L[i].tail.getD 1 0 else ordR (L.drop (i + 1)) r := by
 rw [List.drop_eq_getElem_cons h, ordR]
set_option maxRecDepth 100000 in
set_option maxHeartbeats 4000000 in
theorem c_rOrder (tB : Nat) (r : Int) (w : World) (h : RTab w tB) :
  Calls Tryz.prog 81 #[.pointer (some ⟨tB, 0, none⟩), .int .i32 r] w fun e w' => e = .returned (.int .i64 (ordR rO r : Nat)) ∧ w' = w := by
 obtain ⟨vA, vK, vX, vO, hb, -, -, -, p, cap, rfl, hc⟩ := h.ex
 have y3 : w.cell? ⟨tB, 3, none⟩ = some (.slice p rO.length cap) := (cell_blk hb 3).trans rfl
 have h3 := rO3
 have hrl := rLen.2.2.2
 obtain ⟨L, hL⟩ : ∃ L, rO = L := ⟨_, rfl⟩
 rw [hL] at h3 y3 hc hrl ⊢
 have HC := Lib.hid (And.intro hc h3)
 clear hc hb h3 hL h
 go_enter Tryz.func81, Tryz.ntmps81
 go_wp2_with fail
 go_loop [5] (fun iv => ∃ i : Nat, iv = .int .i64 (i : Nat) ∧ i ≤ L.length ∧ Hid (ordR L r = ordR (L.drop i) r)) (fun iv => L.length + 1 - (intOf iv).toNat)
 case atStart => exact ⟨0, rfl, by omega, Lib.hid rfl⟩
 case round =>
  obtain ⟨i, rfl, hi, HG⟩ := hrel
  by_cases hlt : i < L.length
  ·have hd : decide (i < L.length) = true := decide_eq_true hlt
   have hI : ((i : Nat) : Int) < (L.length : Nat) := by omega
   obtain ⟨b, rfl, hcell⟩ := HC.out.1 (by intro e; subst e; simp at hlt)
   obtain ⟨x, h1, h2, h3⟩ := hcell i hlt
   have hl4 := List.all_eq_true.1 HC.out.2 _ (List.getElem_mem hlt)
   rw [Bool.and_eq_true] at hl4
   have hl3 : L[i].length = 3 := Nat.eq_of_beq_eq_true hl4.1
   have hl5 := Nat.le_of_ble_eq_true hl4.2
   have hg := HG.out
   rw [ordR_drop hlt] at hg
   obtain ⟨a, c, o, hT⟩ : ∃ a c o : Nat, L[i] = [a, c, o] := by
    match h : L[i], hl3 with
    | [a, c, o], _ => exact ⟨a, c, o, rfl⟩
   rw [hT] at hg h1 h3 hl5
   obtain ⟨q, cp, rfl, h4⟩ := h3
   obtain ⟨g, rfl, h5⟩ := h4 (by simp)
   have k0 := h5 0 (by simp)
   have k1 := h5 1 (by simp)
   simp only [List.headD_cons, List.tail_cons, List.getD_cons_succ, List.getD_cons_zero, List.length_cons, List.length_nil, Nat.zero_add, Nat.add_zero, List.getElem_cons_zero, List.getElem_cons_succ, Nat.reduceAdd] at hg h1 h2 k0 k1 hl5
   have ho9 : ((o : Nat) : Int) ≤ 255 := by omega
   clear hcell h4 h5 hT hl3 hl4 hl5
   by_cases ha : ((a : Nat) : Int) ≤ r
   ·by_cases hb2 : r ≤ ((c : Nat) : Int)
    ·rw [if_pos ⟨ha, hb2⟩] at hg
     have HG2 := Lib.hid hg
     have e2 := decide_eq_true hb2
     clear hg HG
     go_wp2_with fail
     go_ret
     exact ⟨by rw [HG2.out]; rfl, rfl⟩
    ·rw [if_neg (fun h => hb2 h.2)] at hg
     have HG2 := Lib.hid hg
     have e2 := decide_eq_false hb2
     clear hg
     go_wp2_with fail
     exact ⟨⟨i + 1, by simp, by omega, HG2⟩, by simp [intOf]; omega⟩
   ·rw [if_neg (fun h => ha h.1)] at hg
    have HG2 := Lib.hid hg
    clear hg
    go_wp2_with fail
    exact ⟨⟨i + 1, by simp, by omega, HG2⟩, by simp [intOf]; omega⟩
  ·have hd : decide (i < L.length) = false := decide_eq_false hlt
   have hI : ¬ ((i : Nat) : Int) < (L.length : Nat) := by omega
   have hg := HG.out
   rw [List.drop_eq_nil_of_le (by omega), ordR] at hg
   have HG2 := Lib.hid hg
   clear hg HG
   go_wp2_with fail
   go_ret
   exact ⟨by rw [HG2.out]; rfl, rfl⟩
end Go.Proofs.YtokeamebcdhnpaaGreatDoor
end

section
namespace Go.Proofs.YtokeamebcdhnpaaGreatDoor
open Go.RowKit Go.Rp Go.Shelf Go.Maps Go.Nm

/-- A slice of runes that is read. -/
def Rd (W : World) (v : Value) (l : List Int) : Prop :=
 ∃ q c, v = .slice q l.length c ∧ (l ≠ [] → ∃ g o, q = some ⟨g, o, none⟩ ∧ ∀ k (hk : k < l.length), W.cell? ⟨g, o + k, none⟩ = some (.int .i32 l[k]))
theorem Rd.mono {W W' : World} {v : Value} {l : List Int} (h : Rd W v l) (hx : Ext W W') : Rd W' v l := by
 obtain ⟨q, c, rfl, h2⟩ := h
 refine ⟨q, c, rfl, fun hne => ?_⟩
 obtain ⟨g, o, rfl, hc⟩ := h2 hne
 exact ⟨g, o, rfl, fun k hk => hx.cell (hc k hk)⟩
theorem Rd.of_row {W : World} {v : Value} {l : List Nat} (h : RowAt W v l) : Rd W v (up l) := by
 obtain ⟨q, c, rfl, h2⟩ := h
 refine ⟨q, c, by rw [up, List.length_map], fun hne => ?_⟩
 obtain ⟨g, rfl, hc⟩ := h2 (fun e => hne (by rw [e]; rfl))
 refine ⟨g, 1, rfl, fun k hk => ?_⟩
 have hk' : k < l.length := by rw [up, List.length_map] at hk; exact hk
 rw [hc k hk']
 simp [up]
theorem Rd.of_own {W : World} {n : Nat} {v : Value} {l : List Int} (h : W.ownsRow n 21 1 v l.length (i32s l)) : Rd W v l := by
 obtain ⟨p, c, rfl⟩ := own_slice h
 refine ⟨p, c, rfl, fun hne => ?_⟩
 obtain ⟨g, rfl, _, _, hc⟩ := own_at h (List.length_pos_iff.2 hne)
 refine ⟨g, 0, rfl, fun k hk => ?_⟩
 rw [Nat.zero_add, hc k (by omega)]
 unfold i32s
 rw [List.getElem?_map, List.getElem?_eq_getElem hk]
 rfl
/-- The same lines. -/
theorem rA_AN : rA.map (fun x => (x.headD 0, x.tail)) = AN := by kernel_rfl
theorem rK_KN : rK.map (fun x => (x.headD 0, x.tail)) = KN := by kernel_rfl
theorem lookL_N (L : List (List Nat)) (x : Nat) : lookL L (x : Nat) = lookN (L.map fun y => (y.headD 0, y.tail)) x := by
 unfold lookN
 induction L with
 | nil => rfl
 | cons e t ih =>
  rw [lookL, List.map_cons, List.find?_cons]
  by_cases h : e.headD 0 = x
  ·rw [if_pos (by omega), show Nat.beq (e.headD 0) x = true from beq_iff.2 h]
   rfl
  ·have h2 : Nat.beq (e.headD 0) x = false := by
    cases hb : Nat.beq (e.headD 0) x with
    | false => rfl
    | true => exact absurd (beq_iff.1 hb) h
   rw [if_neg (by omega), h2]
   exact ih
theorem lookL_neg (L : List (List Nat)) {r : Int} (h : r < 0) : lookL L r = none := by
 induction L with
 | nil => rfl
 | cons e t ih => rw [lookL, if_neg (by omega), ih]
theorem lookL_A (r : Int) : (lookL rA r).map up = lookE apartT r := by
 by_cases h : r < 0
 ·rw [lookL_neg _ h, apartT_up, lookE_neg _ h]
  rfl
 ·obtain ⟨n, rfl⟩ : ∃ n : Nat, r = (n : Nat) := ⟨r.toNat, by omega⟩
  rw [lookL_N, rA_AN, apartT_up, lookE_up]
theorem lookL_K (r : Int) : (lookL rK r).map up = lookE alsoT r := by
 by_cases h : r < 0
 ·rw [lookL_neg _ h, alsoT_up, lookE_neg _ h]
  rfl
 ·obtain ⟨n, rfl⟩ : ∃ n : Nat, r = (n : Nat) := ⟨r.toNat, by omega⟩
  rw [lookL_N, rK_KN, alsoT_up, lookE_up]
/-- What a rune falls apart into by one line, or reckoning. -/
noncomputable def onceT (k : Bool) (r : Int) : Option (List Int) :=
 if 44032 ≤ r ∧ r ≤ 55203 then some (sylE r) else match lookE apartT r with
  | some l => some l
  | none => if k = true then lookE alsoT r else none
theorem faT_none {k : Bool} {r : Int} (h : onceT k r = none) : faT k r = [r] := by
 unfold onceT at h
 unfold faT
 rw [fal]
 split at h
 ·cases h
 ·rename_i hs
  rw [if_neg hs]
  cases hA : lookE apartT r with
  | some l => rw [hA] at h; cases h
  | none =>
   rw [hA] at h
   cases k with
   | false => rfl
   | true =>
    simp only [if_true] at h ⊢
    rw [h]
theorem faT_some {k : Bool} {r : Int} {l : List Int} (h : onceT k r = some l) : faT k r = l.flatMap (faT k) := by
 have h6 : faT k r = fal apartT alsoT 6 k r := (fal_deep 5 k r (deepT k r)).symm
 unfold onceT at h
 split at h
 ·rename_i hs
  cases h
  rw [faT_syl k hs, flat_self fun x hx => faT_jamo k (sylE_jamo hs x hx)]
 ·rename_i hs
  rw [h6, fal, if_neg hs]
  cases hA : lookE apartT r with
  | some l' => rw [hA] at h; cases h; rfl
  | none =>
   rw [hA] at h
   cases k with
   | false => cases h
   | true =>
    simp only [if_true] at h ⊢
    rw [h]
    rfl
set_option maxRecDepth 100000 in
set_option maxHeartbeats 4000000 in
theorem c_risRune (r : Int) (b : Bool) (w : World) (hb : b = true ↔ Utf8.valid r = true) : Calls Tryz.prog 107 #[.int .i32 r] w fun e w' => e = .returned (.bool b) ∧ w' = w := by
 rw [valid_iff] at hb
 have HB := Lib.hid hb
 clear hb
 by_cases h0 : 0 ≤ r
 ·by_cases h1 : r ≤ 1114111
  ·by_cases h2 : r < 55296
   ·have e1 := decide_eq_true h1
    have e2 := decide_eq_true h2
    have hbt : b = true := HB.out.2 (by omega)
    subst hbt
    go_enter Tryz.func107, Tryz.ntmps107
    go_wp2_with fail
    exact ret_one rfl rfl rfl ⟨rfl, rfl⟩
   ·by_cases h3 : 57343 < r
    ·have e1 := decide_eq_true h1
     have e2 := decide_eq_false h2
     have e3 := decide_eq_true h3
     have hbt : b = true := HB.out.2 (by omega)
     subst hbt
     go_enter Tryz.func107, Tryz.ntmps107
     go_wp2_with fail
     exact ret_one rfl rfl rfl ⟨rfl, rfl⟩
    ·have e1 := decide_eq_true h1
     have e2 := decide_eq_false h2
     have e3 := decide_eq_false h3
     have hbt : b = false := by
      cases b with
      | false => rfl
      | true => have := HB.out.1 rfl; omega
     subst hbt
     go_enter Tryz.func107, Tryz.ntmps107
     go_wp2_with fail
     exact ret_one rfl rfl rfl ⟨rfl, rfl⟩
  ·have e1 := decide_eq_false h1
   have hbt : b = false := by
    cases b with
    | false => rfl
    | true => have := HB.out.1 rfl; omega
   subst hbt
   go_enter Tryz.func107, Tryz.ntmps107
   go_wp2_with fail
   exact ret_one rfl rfl rfl ⟨rfl, rfl⟩
 ·have hbt : b = false := by
   cases b with
   | false => rfl
   | true => have := HB.out.1 rfl; omega
  subst hbt
  go_enter Tryz.func107, Tryz.ntmps107
  go_wp2_with fail
  exact ret_one rfl rfl rfl ⟨rfl, rfl⟩
set_option maxRecDepth 100000 in
set_option maxHeartbeats 4000000 in
theorem c_rRight (f : Int) (w : World) : Calls Tryz.prog 55 #[.int .i64 f] w fun e w' => e = .returned (.bool (decide (0 ≤ f ∧ f ≤ 3))) ∧ w' = w := by
 by_cases h0 : 0 ≤ f
 ·by_cases h1 : f ≤ 3
  ·have e1 := decide_eq_true h1
   have e2 := decide_eq_true (And.intro h0 h1)
   rw [e2]
   clear e2
   go_enter Tryz.func55, Tryz.ntmps55
   go_wp2_with fail
   exact ret_one rfl rfl rfl ⟨rfl, rfl⟩
  ·have e1 := decide_eq_false h1
   have e2 : decide (0 ≤ f ∧ f ≤ 3) = false := decide_eq_false (fun h => h1 h.2)
   rw [e2]
   clear e2
   go_enter Tryz.func55, Tryz.ntmps55
   go_wp2_with fail
   exact ret_one rfl rfl rfl ⟨rfl, rfl⟩
 ·have e2 : decide (0 ≤ f ∧ f ≤ 3) = false := decide_eq_false (fun h => h0 h.1)
  rw [e2]
  clear e2
  go_enter Tryz.func55, Tryz.ntmps55
  go_wp2_with fail
  exact ret_one rfl rfl rfl ⟨rfl, rfl⟩
set_option maxRecDepth 100000 in
set_option maxHeartbeats 8000000 in
theorem c_ronce (tB : Nat) (r f : Int) (k : Bool) (hk : decide (2 ≤ f) = k) (w : World) (h : RTab w tB) :
  Calls Tryz.prog 108 #[.pointer (some ⟨tB, 0, none⟩), .int .i32 r, .int .i64 f] w fun e w' => ∃ x, e = .returned (.tuple #[x, .bool (onceT k r).isSome]) ∧ Rd w' x ((onceT k r).getD []) ∧ Ext w w' := by
 by_cases hs : 44032 ≤ r ∧ r ≤ 55203
 ·have ho : onceT k r = some (sylE r) := by unfold onceT; rw [if_pos hs]
  obtain ⟨hs1, hs2⟩ := hs
  rw [ho]
  have hd2 := decide_eq_true hs2
  obtain ⟨i0, hi0, hz0, hz1, hz3⟩ := info_parts Tryz.infoI
  have hx1 : Ext w (w.alloc (.cells #[.int .i32 (4352 + (r - 44032) / 588), .int .i32 (4449 + (r - 44032) % 588 / 28)] 21)) := (Ext.refl w).alloc _
  have hown := own_new w 21 [.int .i32 (4352 + (r - 44032) / 588), .int .i32 (4449 + (r - 44032) % 588 / 28)] (by unfold maxLen; simp)
  clear ho h
  by_cases hm : (r - 44032) % 28 = 0
  ·have hm' : ((r - 44032) % 28 != 0) = false := by simp [hm]
   have HX := Lib.hid (And.intro hx1 hown)
   have HM := Lib.hid hm
   clear hx1 hown hm
   go_enter Tryz.func108, Tryz.ntmps108
   go_wp2_with fail
   have e : sylE r = [4352 + (r - 44032) / 588, 4449 + (r - 44032) % 588 / 28] := by unfold sylE; rw [if_pos HM.out]; rfl
   refine ret_two rfl rfl rfl rfl ⟨_, rfl, ?_, HX.out.1⟩
   rw [Option.getD_some, e]
   exact Rd.of_own HX.out.2
  ·have hm' : ((r - 44032) % 28 != 0) = true := by simp [hm]
   have e : sylE r = [4352 + (r - 44032) / 588, 4449 + (r - 44032) % 588 / 28] ++ [4519 + (r - 44032) % 28] := by unfold sylE; rw [if_neg hm]
   have HS := Lib.hid e
   have hown2 := ownsRow_ext hown (Ext.refl _ |>.alloc (.cells #[.int .i32 (4519 + (r - 44032) % 28)] 21))
   have hcl : ((w.alloc (.cells #[.int .i32 (4352 + (r - 44032) / 588), .int .i32 (4449 + (r - 44032) % 588 / 28)] 21)).alloc (.cells #[.int .i32 (4519 + (r - 44032) % 28)] 21)).cell? ⟨w.heap.size + 1, 0, none⟩ = some (.int .i32 (4519 + (r - 44032) % 28)) := by
    have h := World.alloc_heap_new (w.alloc (.cells #[.int .i32 (4352 + (r - 44032) / 588), .int .i32 (4449 + (r - 44032) % 588 / 28)] 21)) (.cells #[.int .i32 (4519 + (r - 44032) % 28)] 21)
    rw [World.size_alloc] at h
    exact (cell_blk h 0).trans rfl
   have HX := Lib.hid (And.intro (hx1.alloc (.cells #[.int .i32 (4519 + (r - 44032) % 28)] 21)) (And.intro hown2 hcl))
   clear hx1 hown hm e hown2 hcl
   go_enter Tryz.func108, Tryz.ntmps108
   go_wp2_with (at_builtin; refine Hid.out ?_)
   refine Lib.hid ?_
   refine wpList_apps rfl (.tmp 31) (.tmp 35) 55 rfl 21 i0 (.int .i32 0) 1 4 Tryz.underlying55 hi0 hz0 hz1 hz3 rfl (by decide) rfl HX.out.2.1 HX.out.1 [.int .i32 (4519 + (r - 44032) % 28)] (w.heap.size + 1) 0 1 1 rfl rfl ?c1 (by intro u hu; simp at hu; subst hu; rfl) (by simp) (by decide) ?_
   case c1 =>
    intro j hj
    match j, hj with
    | 0, _ => exact HX.out.2.2
   intro v' w4 hown4 hx4 _
   have HO4 := Lib.hid (And.intro hown4 hx4)
   clear hown4 hx4 HX
   go_wp2_with fail
   refine ret_two rfl rfl rfl rfl ⟨_, rfl, ?_, HO4.out.2⟩
   rw [Option.getD_some, HS.out]
   exact Rd.of_own HO4.out.1
 ·obtain ⟨vA, vK, vX, vO, hb, hA, hK, -, -⟩ := h.ex
  have y0 : w.cell? ⟨tB, 0, none⟩ = some vA := (cell_blk hb 0).trans rfl
  have y1 : w.cell? ⟨tB, 1, none⟩ = some vK := (cell_blk hb 1).trans rfl
  have HFA := Lib.hid (c_rfind vA rA r w hA (by have := rLen.1; omega))
  have HFK := Lib.hid (c_rfind vK rK r w hK (by have := rLen.2.1; omega))
  obtain ⟨pA, cA, rfl, -⟩ := hA
  obtain ⟨pK, cK, rfl, -⟩ := hK
  have HSN := Lib.hid hs
  have eA := lookL_A r
  have eK := lookL_K r
  have HE := Lib.hid (And.intro eA eK)
  obtain ⟨oA, hoA⟩ : ∃ o, lookL rA r = o := ⟨_, rfl⟩
  obtain ⟨oK, hoK⟩ : ∃ o, lookL rK r = o := ⟨_, rfl⟩
  rw [hoA, hoK] at HE
  rw [hoA] at HFA
  rw [hoK] at HFK
  clear eA eK hoA hoK hb h
  obtain ⟨hs1, hs2⟩ | ⟨hs1, -⟩ : (44032 ≤ r ∧ ¬ r ≤ 55203) ∨ (¬ 44032 ≤ r ∧ True) := by
   by_cases h : 44032 ≤ r
   ·exact .inl ⟨h, fun h2 => hs ⟨h, h2⟩⟩
   ·exact .inr ⟨h, trivial⟩
  ·have hsd := decide_eq_false hs2
   clear hs
   go_enter Tryz.func108, Tryz.ntmps108
   go_wp2_with fail
   refine HFA.out.mono ?_
   rintro e w2 ⟨x, rfl, hrd, e2⟩
   obtain rfl := e2.symm
   clear e2
   have HRD := Lib.hid hrd
   obtain ⟨q, c, rfl, -⟩ := hrd
   cases oA with
   | some l =>
    have ho : onceT k r = some (up l) := by
     unfold onceT
     rw [if_neg HSN.out, ← HE.out.1]
     rfl
    have HO := Lib.hid ho
    clear ho
    go_wp2_with fail
    refine ret_two rfl rfl rfl rfl ⟨.slice q l.length c, by rw [HO.out]; rfl, by rw [HO.out]; exact Rd.of_row HRD.out, Ext.refl _⟩
   | none =>
    by_cases h2 : 2 ≤ f
    ·have hkt : k = true := by rw [← hk]; exact decide_eq_true h2
     have hd2 := decide_eq_true h2
     have ho : onceT k r = oK.map up := by
      unfold onceT
      rw [if_neg HSN.out, ← HE.out.1]
      show (if k = true then _ else _) = _
      rw [if_pos hkt, HE.out.2]
     have HO := Lib.hid ho
     clear ho hk hkt
     go_wp2_with fail
     refine HFK.out.mono ?_
     rintro e w2 ⟨x, rfl, hrd, e2⟩
     obtain rfl := e2.symm
     clear e2 HRD
     have HRD := Lib.hid hrd
     obtain ⟨q, c, rfl, -⟩ := hrd
     obtain ⟨bk, hbk⟩ : ∃ b, oK.isSome = b := ⟨_, rfl⟩
     rw [hbk]
     have HB := Lib.hid hbk
     clear hbk
     go_wp2_with fail
     refine ret_two rfl rfl rfl rfl ⟨.slice q (oK.getD []).length c, by rw [HO.out, Option.isSome_map, HB.out]; rfl, ?_, Ext.refl _⟩
     rw [HO.out]
     cases oK with
     | none => exact Rd.of_row HRD.out
     | some l => exact Rd.of_row HRD.out
    ·have hkt : k = false := by rw [← hk]; exact decide_eq_false h2
     have hd2 := decide_eq_false h2
     have ho : onceT k r = none := by
      unfold onceT
      rw [if_neg HSN.out, ← HE.out.1]
      show (if k = true then _ else _) = _
      rw [if_neg (by rw [hkt]; simp)]
     have HO := Lib.hid ho
     clear ho hk hkt
     go_wp2_with fail
     refine ret_two rfl rfl rfl rfl ⟨_, by rw [HO.out]; rfl, by rw [HO.out]; exact Rd.of_row HRD.out, Ext.refl _⟩
  ·clear hs
   go_enter Tryz.func108, Tryz.ntmps108
   go_wp2_with fail
   refine HFA.out.mono ?_
   rintro e w2 ⟨x, rfl, hrd, e2⟩
   obtain rfl := e2.symm
   clear e2
   have HRD := Lib.hid hrd
   obtain ⟨q, c, rfl, -⟩ := hrd
   cases oA with
   | some l =>
    have ho : onceT k r = some (up l) := by
     unfold onceT
     rw [if_neg HSN.out, ← HE.out.1]
     rfl
    have HO := Lib.hid ho
    clear ho
    go_wp2_with fail
    refine ret_two rfl rfl rfl rfl ⟨.slice q l.length c, by rw [HO.out]; rfl, by rw [HO.out]; exact Rd.of_row HRD.out, Ext.refl _⟩
   | none =>
    by_cases h2 : 2 ≤ f
    ·have hkt : k = true := by rw [← hk]; exact decide_eq_true h2
     have hd2 := decide_eq_true h2
     have ho : onceT k r = oK.map up := by
      unfold onceT
      rw [if_neg HSN.out, ← HE.out.1]
      show (if k = true then _ else _) = _
      rw [if_pos hkt, HE.out.2]
     have HO := Lib.hid ho
     clear ho hk hkt
     go_wp2_with fail
     refine HFK.out.mono ?_
     rintro e w2 ⟨x, rfl, hrd, e2⟩
     obtain rfl := e2.symm
     clear e2 HRD
     have HRD := Lib.hid hrd
     obtain ⟨q, c, rfl, -⟩ := hrd
     obtain ⟨bk, hbk⟩ : ∃ b, oK.isSome = b := ⟨_, rfl⟩
     rw [hbk]
     have HB := Lib.hid hbk
     clear hbk
     go_wp2_with fail
     refine ret_two rfl rfl rfl rfl ⟨.slice q (oK.getD []).length c, by rw [HO.out, Option.isSome_map, HB.out]; rfl, ?_, Ext.refl _⟩
     rw [HO.out]
     cases oK with
     | none => exact Rd.of_row HRD.out
     | some l => exact Rd.of_row HRD.out
    ·have hkt : k = false := by rw [← hk]; exact decide_eq_false h2
     have hd2 := decide_eq_false h2
     have ho : onceT k r = none := by
      unfold onceT
      rw [if_neg HSN.out, ← HE.out.1]
      show (if k = true then _ else _) = _
      rw [if_neg (by rw [hkt]; simp)]
     have HO := Lib.hid ho
     clear ho hk hkt
     go_wp2_with fail
     refine ret_two rfl rfl rfl rfl ⟨_, by rw [HO.out]; rfl, by rw [HO.out]; exact Rd.of_row HRD.out, Ext.refl _⟩
end Go.Proofs.YtokeamebcdhnpaaGreatDoor
end

section
namespace Go.Proofs.YtokeamebcdhnpaaGreatDoor
open Go.RowKit Go.Rp Go.Shelf Go.Maps Go.Nm

theorem once_valid {k : Bool} {r : Int} {l : List Int} (h : onceT k r = some l) : ∀ x ∈ l, Utf8.valid x = true := by
 intro x hx
 unfold onceT at h
 split at h
 ·rename_i hs
  cases h
  exact valid_jamo (sylE_jamo hs x hx)
 ·cases hA : lookE apartT r with
  | some l' =>
   rw [hA] at h
   cases h
   obtain ⟨e, he, rfl, rfl⟩ := lookA hA
   obtain ⟨n, hn, rfl⟩ := List.mem_map.1 hx
   exact (lineA he).vals n hn
  | none =>
   rw [hA] at h
   cases k with
   | false => cases h
   | true =>
    simp only [if_true] at h
    obtain ⟨e, he, rfl, rfl⟩ := lookK h
    obtain ⟨n, hn, rfl⟩ := List.mem_map.1 hx
    exact (lineK he).vals n hn
theorem once_len {k : Bool} {r : Int} {l : List Int} (h : onceT k r = some l) : l.length ≤ 20 := by
 unfold onceT at h
 split at h
 ·cases h
  unfold sylE
  split <;> simp
 ·cases hA : lookE apartT r with
  | some l' =>
   rw [hA] at h
   cases h
   exact (goodTA.1 _ (lookE_mem hA)).2.1.2
  | none =>
   rw [hA] at h
   cases k with
   | false => cases h
   | true =>
    simp only [if_true] at h
    exact (goodTK.1 _ (lookE_mem h)).2.1.2
theorem once_jamo (k : Bool) {r : Int} (h : 4352 ≤ r ∧ r ≤ 4546) : onceT k r = none := by
 cases ho : onceT k r with
 | none => rfl
 | some l =>
  exfalso
  unfold onceT at ho
  rw [if_neg (by omega)] at ho
  cases hA : lookE apartT r with
  | some l' =>
   obtain ⟨e, he, rfl, rfl⟩ := lookA hA
   have := (lineA he).jam
   omega
  | none =>
   rw [hA] at ho
   cases k with
   | false => cases ho
   | true =>
    simp only [if_true] at ho
    obtain ⟨e, he, rfl, rfl⟩ := lookK ho
    have := (lineK he).jam
    omega
theorem flatF_le (k : Bool) : ∀ l : List Int, (l.flatMap (faT k)).length ≤ l.length * 20
 | [] => by simp
 | x :: t => by
  have := flatF_le k t
  have := (faT_len k x).2
  simp only [List.flatMap_cons, List.length_append, List.length_cons, Nat.add_mul, Nat.one_mul]
  omega
set_option maxRecDepth 100000 in
set_option maxHeartbeats 4000000 in
theorem c_rLeaf (tB : Nat) (f : Int) (k : Bool) (hf : 0 ≤ f ∧ f ≤ 3) (hk : decide (2 ≤ f) = k) (r : Int) (w : World) (hv : Utf8.valid r = true) (h : RTab w tB) (ho : onceT k r = none) :
  Calls Tryz.prog 80 #[.pointer (some ⟨tB, 0, none⟩), .int .i32 r, .int .i64 f] w fun e w' => ∃ v, e = .returned v ∧ w'.ownsRow w.heap.size 21 1 v 1 [.int .i32 r] ∧ Ext w w' := by
 have HR := Lib.hid (fun w => c_risRune r true w ⟨fun _ => hv, fun _ => rfl⟩)
 have HG := Lib.hid (fun w => c_rRight f w)
 rw [decide_eq_true hf] at HG
 have HO := Lib.hid (c_ronce tB r f k hk w h)
 rw [ho] at HO
 simp only [Option.isSome_none] at HO
 clear ho hv hk hf
 go_enter Tryz.func80, Tryz.ntmps80
 go_wp2_with fail
 refine (HR.out w).mono ?_
 rintro e w2 ⟨rfl, e2⟩
 obtain rfl := e2.symm
 clear e2
 go_wp2_with fail
 refine (HG.out w).mono ?_
 rintro e w2 ⟨rfl, e2⟩
 obtain rfl := e2.symm
 clear e2
 go_wp2_with fail
 refine HO.out.mono ?_
 rintro e w3 ⟨x, rfl, hrd, hx3⟩
 obtain ⟨q, c, rfl, -⟩ := hrd
 have hown := own_new w3 21 [.int .i32 r] (by unfold maxLen; simp)
 have HW := Lib.hid (And.intro hown (hx3.alloc (.cells #[.int .i32 r] 21)))
 have HZ := Lib.hid hx3.sz
 clear hown hx3
 go_wp2_with fail
 go_ret
 exact ⟨_, rfl, own_lower HW.out.1 HZ.out, HW.out.2⟩
set_option maxRecDepth 100000 in
set_option maxHeartbeats 4000000 in
theorem c_rLoop (tB : Nat) (f : Int) (k : Bool) (hf : 0 ≤ f ∧ f ≤ 3) (hk : decide (2 ≤ f) = k) (r : Int) (l : List Int) (w : World) (hv : Utf8.valid r = true) (h : RTab w tB) (ho : onceT k r = some l)
  (ih : ∀ x ∈ l, ∀ w, RTab w tB → Calls Tryz.prog 80 #[.pointer (some ⟨tB, 0, none⟩), .int .i32 x, .int .i64 f] w fun e w' => ∃ v, e = .returned v ∧ w'.ownsRow w.heap.size 21 1 v (faT k x).length (i32s (faT k x)) ∧ Ext w w') :
  Calls Tryz.prog 80 #[.pointer (some ⟨tB, 0, none⟩), .int .i32 r, .int .i64 f] w fun e w' => ∃ v, e = .returned v ∧ w'.ownsRow w.heap.size 21 1 v (faT k r).length (i32s (faT k r)) ∧ Ext w w' := by
 have HR := Lib.hid (fun w => c_risRune r true w ⟨fun _ => hv, fun _ => rfl⟩)
 have HG := Lib.hid (fun w => c_rRight f w)
 rw [decide_eq_true hf] at HG
 have HO := Lib.hid (c_ronce tB r f k hk w h)
 rw [ho] at HO
 simp only [Option.isSome_some, Option.getD_some] at HO
 have HF := Lib.hid (faT_some ho)
 have hl20 := once_len ho
 have HT := Lib.hid h
 have IH := Lib.hid ih
 clear ho hv hk hf ih h
 go_enter Tryz.func80, Tryz.ntmps80
 go_wp2_with fail
 refine (HR.out w).mono ?_
 rintro e w2 ⟨rfl, e2⟩
 obtain rfl := e2.symm
 clear e2
 go_wp2_with fail
 refine (HG.out w).mono ?_
 rintro e w2 ⟨rfl, e2⟩
 obtain rfl := e2.symm
 clear e2
 go_wp2_with fail
 refine HO.out.mono ?_
 rintro e w3 ⟨x, rfl, hrd, hx3⟩
 have HRD := Lib.hid (And.intro hrd hx3)
 obtain ⟨q, c, rfl, hcell⟩ := hrd
 have HC := Lib.hid hcell
 clear hcell hx3
 go_wp2_with fail
 go_loopw [9, 10] (fun ov iv W => ∃ i : Nat, iv = .int .i64 (i : Nat) ∧ i ≤ l.length ∧ W.ownsRow w3.heap.size 21 1 ov ((l.take i).flatMap (faT k)).length (i32s ((l.take i).flatMap (faT k))) ∧ Ext w3 W) (fun _ iv _ => l.length + 1 - (intOf iv).toNat)
 case atStart => exact ⟨0, rfl, by omega, World.ownsRow_nil _ _ _ _, Ext.refl _⟩
 case round =>
  obtain ⟨i, rfl, hi, hrow, hx⟩ := hrel
  have hxw := HRD.out.2.trans hx
  by_cases hlt : i < l.length
  ·have hlI : ((i : Nat) : Int) < (l.length : Nat) := by omega
   have hd : decide (i < l.length) = true := decide_eq_true hlt
   obtain ⟨g, o, rfl, hck⟩ := HC.out (by intro e; subst e; simp at hlt)
   obtain ⟨x, hxi⟩ : ∃ x, l[i] = x := ⟨_, rfl⟩
   have hc := hx.cell (hck i hlt)
   rw [hxi] at hc
   have HX := Lib.hid (show x ∈ l ∧ i32s ((l.take i).flatMap (faT k)) ++ i32s (faT k x) = i32s ((l.take (i + 1)).flatMap (faT k)) ∧ ((l.take (i + 1)).flatMap (faT k)).length = ((l.take i).flatMap (faT k)).length + (faT k x).length by
    refine ⟨by rw [← hxi]; exact List.getElem_mem hlt, ?_, ?_⟩
    ·rw [List.take_add_one, List.getElem?_eq_getElem hlt, hxi, List.flatMap_append]
     simp [i32s]
    ·rw [List.take_add_one, List.getElem?_eq_getElem hlt, hxi, List.flatMap_append]
     simp)
   have HROW := Lib.hid (And.intro hrow hx)
   clear hxi hrow hck
   go_wp2_with fail
   refine (IH.out x HX.out.1 wr (HT.out.mono hxw)).mono ?_
   rintro e w4 ⟨v4, rfl, hrow4, hx4⟩
   have hl1 := (faT_len k x).1
   have hl2 := (faT_len k x).2
   have hcl := flatF_le k (l.take i)
   rw [List.length_take] at hcl
   obtain ⟨p4, c4, rfl⟩ := own_slice hrow4
   obtain ⟨g4, rfl, _, _, hgc4⟩ := own_at hrow4 hl1
   have hn4 : ((l.take i).flatMap (faT k)).length + (faT k x).length ≤ 1000 := by omega
   have hrow0 := ownsRow_ext HROW.out.1 hx4
   have HN := Lib.hid (And.intro hn4 (And.intro hrow0 (HROW.out.2.trans hx4)))
   have HC4 := Lib.hid (show ∀ j (h : j < (i32s (faT k x)).length), w4.cell? ⟨g4, 0 + j, none⟩ = some (i32s (faT k x))[j] from fun j hj => by
    rw [Nat.zero_add, hgc4 j (by unfold i32s at hj; rw [List.length_map] at hj; omega), List.getElem?_eq_getElem hj])
   have HL4 := Lib.hid (show (i32s (faT k x)).length = (faT k x).length * 1 by unfold i32s; rw [List.length_map, Nat.mul_one])
   clear hrow4 hl1 hl2 hcl hgc4 hn4 hrow0 hx4 hx hxw HROW
   obtain ⟨m, hm⟩ : ∃ m, (faT k x).length = m := ⟨_, rfl⟩
   rw [hm] at HX HN HL4 ⊢
   clear hm
   obtain ⟨i0, hi0, hz0, hz1, hz3⟩ := info_parts Tryz.infoI
   go_wp2_with (at_builtin; refine Hid.out ?_)
   refine Lib.hid ?_
   refine wpList_apps rfl (.tmp 36) (.tmp 43) 55 rfl 21 i0 (.int .i32 0) 1 4 Tryz.underlying55 hi0 hz0 hz1 hz3 rfl (by decide) rfl HN.out.2.1 HN.out.2.2 (i32s (faT k x)) g4 0 m c4 rfl HL4.out HC4.out (by intro u hu; obtain ⟨z, _, rfl⟩ := List.mem_map.1 hu; rfl) (by have := HN.out.1; omega) (by decide) ?_
   intro v' w5 hown5 hx5 hk5
   rw [HX.out.2.1, ← HX.out.2.2] at hown5
   have HO5 := Lib.hid (And.intro hown5 hx5)
   clear hown5 hx5 hk5
   go_wp2_with fail
   go_roundw
   case rel => exact ⟨i + 1, by simp, by omega, HO5.out.1, HO5.out.2⟩
   case measure => simp [intOf]; omega
  ·have hd : decide (i < l.length) = false := decide_eq_false hlt
   have hlI : ¬ ((i : Nat) : Int) < (l.length : Nat) := by omega
   obtain rfl : i = l.length := by omega
   rw [List.take_length, ← HF.out] at hrow
   have HROW := Lib.hid (And.intro (own_lower hrow HRD.out.2.sz) hxw)
   clear hrow hx hxw
   go_wp2_with fail
   go_ret
   exact ⟨_, rfl, HROW.out.1, HROW.out.2⟩
theorem c_rApart0 (tB : Nat) (f : Int) (k : Bool) (hf : 0 ≤ f ∧ f ≤ 3) (hk : decide (2 ≤ f) = k) : ∀ (d : Nat) (r : Int) (w : World), Utf8.valid r = true → Deep apartT alsoT d k r → RTab w tB →
  Calls Tryz.prog 80 #[.pointer (some ⟨tB, 0, none⟩), .int .i32 r, .int .i64 f] w fun e w' => ∃ v, e = .returned v ∧ w'.ownsRow w.heap.size 21 1 v (faT k r).length (i32s (faT k r)) ∧ Ext w w'
 | 0, r, w, _, hd, _ => hd.elim
 | d + 1, r, w, hv, hd, h => by
  have leaf : ∀ (x : Int) (w : World), Utf8.valid x = true → onceT k x = none → RTab w tB → Calls Tryz.prog 80 #[.pointer (some ⟨tB, 0, none⟩), .int .i32 x, .int .i64 f] w fun e w' => ∃ v, e = .returned v ∧ w'.ownsRow w.heap.size 21 1 v (faT k x).length (i32s (faT k x)) ∧ Ext w w' := fun x w hv ho h => by
   rw [faT_none ho]
   exact c_rLeaf tB f k hf hk x w hv h ho
  cases ho : onceT k r with
  | none => exact leaf r w hv ho h
  | some l =>
   refine c_rLoop tB f k hf hk r l w hv h ho (fun x hx w h => ?_)
   have hvx := once_valid ho x hx
   by_cases hs : 44032 ≤ r ∧ r ≤ 55203
   ·unfold onceT at ho
    rw [if_pos hs] at ho
    cases ho
    exact leaf x w hvx (once_jamo k (sylE_jamo hs x hx)) h
   ·refine c_rApart0 tB f k hf hk d x w hvx ?_ h
    unfold onceT at ho
    rw [if_neg hs] at ho
    rcases hd with hd | hd
    ·exact absurd hd hs
    ·cases hA : lookE apartT r with
     | some l' =>
      rw [hA] at ho hd
      cases ho
      exact hd x hx
     | none =>
      rw [hA] at ho hd
      cases k with
      | false => cases ho
      | true =>
       simp only [if_true] at ho
       have hd := hd rfl
       rw [ho] at hd
       exact hd x hx
theorem c_rApart (tB : Nat) (f r : Int) (hf : 0 ≤ f ∧ f ≤ 3) (w : World) (hv : Utf8.valid r = true) (h : RTab w tB) :
  Calls Tryz.prog 80 #[.pointer (some ⟨tB, 0, none⟩), .int .i32 r, .int .i64 f] w fun e w' => ∃ v, e = .returned v ∧ w'.ownsRow w.heap.size 21 1 v (faT (decide (f = 2 ∨ f = 3)) r).length (i32s (faT (decide (f = 2 ∨ f = 3)) r)) ∧ Ext w w' :=
 c_rApart0 tB f _ hf (by rw [decide_eq_decide]; omega) 5 r w hv (deepT _ r) h
end Go.Proofs.YtokeamebcdhnpaaGreatDoor
end
