/-
 The tables' texts, out of the program, and what their lines say. The tables while they are made.
-/
import Derived.Test.YtokeamebcdhnpaaGreatDoorWalkD
import Derived.Test.YtokeamebcdhnpaaGreatDoorMapsR
section
namespace Go.Proofs.YtokeamebcdhnpaaGreatDoor
open Go.RowKit Go.Rp Go.Shelf Go.Maps

def strArg : Operand → List ByteArray
 | .const (.string s) => [s]
 | _ => []
def strOper (o : Oper) : List ByteArray := match o.op with
 | .call c => c.args.toList.flatMap strArg
 | _ => []
/-- The constant texts that a function's calls are handed. -/
def strsOf : Code → List ByteArray
 | .region _ ops _ => ops.toList.flatMap strOper
 | .seq a b => strsOf a ++ strsOf b
 | .cond _ a b => strsOf a ++ strsOf b
 | .block _ b => strsOf b
 | .loop b => strsOf b
 | .scope b => strsOf b
 | _ => []
noncomputable def texts : List ByteArray := strsOf (Tryz.f46.body.getD .skip)
noncomputable def textA : ByteArray := texts.getD 0 ByteArray.empty
noncomputable def textK : ByteArray := texts.getD 1 ByteArray.empty
noncomputable def textX : ByteArray := texts.getD 2 ByteArray.empty
noncomputable def textO : ByteArray := texts.getD 3 ByteArray.empty
/-- A text's lines, byte by byte. -/
def linesC : List UInt8 → List UInt8 → List (List UInt8)
 | cur, [] => if cur = [] then [] else [cur]
 | cur, c :: t => if c = 10 then (cur ++ [c]) :: linesC [] t else linesC (cur ++ [c]) t
def wordsC (l : List UInt8) : List (List (List UInt8)) := (linesC [] l).map Lib.fields
theorem linesC_none : ∀ (l cur : List UInt8), (∀ c ∈ l, c ≠ 10) → linesC cur l = if cur ++ l = [] then [] else [cur ++ l]
 | [], cur, _ => by simp [linesC]
 | c :: t, cur, h => by
  rw [linesC, if_neg (h c (by simp)), linesC_none t _ (fun z hz => h z (by simp [hz]))]
  simp
theorem linesC_some : ∀ (a b cur : List UInt8), (∀ c ∈ a, c ≠ 10) → linesC cur (a ++ 10 :: b) = (cur ++ a ++ [10]) :: linesC [] b
 | [], b, cur, _ => by simp [linesC]
 | c :: t, b, cur, h => by
  rw [List.cons_append, linesC, if_neg (h c (by simp)), linesC_some t b _ (fun z hz => h z (by simp [hz]))]
  simp
theorem ext_list (s : ByteArray) (a b : Nat) : (s.extract a b).data.toList = (s.data.toList.take b).drop a := by
 rw [ByteArray.data_extract, Array.toList_extract, List.extract_eq_take_drop, List.drop_take]
theorem lines_list : ∀ (n : Nat) (s : ByteArray), s.size ≤ n → (linesGo n s).map (fun l => l.data.toList) = linesC [] s.data.toList
 | 0, s, h => by
  have : s.data.toList = [] := List.length_eq_zero_iff.1 (by simpa using h)
  rw [this]; rfl
 | n + 1, s, h => by
  rw [linesGo]
  have hlen : s.data.toList.length = s.size := by simp
  by_cases h0 : s.size = 0
  ·have : s.data.toList = [] := List.length_eq_zero_iff.1 (by rw [hlen]; exact h0)
   rw [if_pos h0, this]; rfl
  ·have hll : 0 < lineLen s ∧ lineLen s ≤ s.size := by
    unfold lineLen
    split
    ·rename_i hz
     obtain ⟨o, ho⟩ : ∃ o : Nat, Lib.indexByte s.data.toList 10 = o := ⟨_, (Int.toNat_of_nonneg hz).symm⟩
     have := (List.getElem?_eq_some_iff.1 (Lib.indexByte_some ho).1).1
     rw [ho]
     simp only [Int.toNat_natCast]
     omega
    ·omega
   rw [if_neg h0, List.map_cons, lines_list n _ (by simp; omega), ext_list, ext_list, List.drop_zero, ← hlen, List.take_length]
   by_cases hz : 0 ≤ Lib.indexByte s.data.toList 10
   ·obtain ⟨o, ho⟩ : ∃ o : Nat, Lib.indexByte s.data.toList 10 = o := ⟨_, (Int.toNat_of_nonneg hz).symm⟩
    obtain ⟨h1, h2⟩ := Lib.indexByte_some ho
    have hl : lineLen s = o + 1 := by unfold lineLen; rw [if_pos hz, ho]; rfl
    have ho2 := (List.getElem?_eq_some_iff.1 h1).1
    have hsp : s.data.toList = s.data.toList.take o ++ 10 :: s.data.toList.drop (o + 1) := by
     have := (List.getElem?_eq_some_iff.1 h1).2
     rw [← this, ← List.drop_eq_getElem_cons ho2, List.take_append_drop]
    have hne : ∀ c ∈ s.data.toList.take o, c ≠ 10 := by
     intro c hc e
     obtain ⟨i, hi, rfl⟩ := List.mem_iff_getElem.1 hc
     rw [List.getElem_take] at e
     have hi' : i < o := by simp at hi; omega
     exact h2 i hi' (by rw [List.getElem?_eq_getElem (by omega), e])
    have hc := linesC_some _ (s.data.toList.drop (o + 1)) [] hne
    rw [← hsp] at hc
    rw [hc, hl, List.take_add_one, h1]
    rfl
   ·have hm1 : Lib.indexByte s.data.toList 10 = -1 := by have := Lib.indexByte_ge s.data.toList 10; omega
    have hl : lineLen s = s.size := by unfold lineLen; rw [if_neg hz]
    have hne : ∀ c ∈ s.data.toList, c ≠ 10 := by
     intro c hc e
     obtain ⟨i, hi, rfl⟩ := List.mem_iff_getElem.1 hc
     exact Lib.indexByte_none hm1 i (by rw [List.getElem?_eq_getElem hi, e])
    have hc := linesC_none _ [] hne
    have hne2 : s.data.toList ≠ [] := fun e => by rw [e] at hlen; exact h0 hlen.symm
    rw [List.nil_append, if_neg hne2] at hc
    rw [hc, hl, ← hlen, List.take_length, List.drop_length]
    rfl
theorem words_list (s : ByteArray) : wordsOf s = wordsC s.data.toList := by
 unfold wordsOf wordsC
 rw [← lines_list s.size s (Nat.le_refl _), List.map_map]
 rfl
/-- The checks. -/
def hexB (c : UInt8) : Bool := (decide (48 ≤ c.toNat) && decide (c.toNat ≤ 57)) || (decide (65 ≤ c.toNat) && decide (c.toNat ≤ 70))
def wordB (x : List UInt8) : Bool := decide (0 < x.length) && decide (x.length ≤ 6) && x.all hexB
def nodupB : List Nat → Bool
 | [] => true
 | x :: t => !t.any (fun y => Nat.beq y x) && nodupB t
def goodB (L : List (List (List UInt8))) : Bool := L.all (fun ws => decide (2 ≤ ws.length) && decide (ws.length ≤ 1000) && ws.all wordB) && nodupB (L.map fun ws => hexV (ws.headD []))
theorem wordB_spec {x : List UInt8} (h : wordB x = true) : HexW x := by
 simp only [wordB, Bool.and_eq_true, decide_eq_true_eq, List.all_eq_true] at h
 refine ⟨h.1.1, h.1.2, fun c hc => ?_⟩
 have := h.2 c hc
 simp only [hexB, Bool.or_eq_true, Bool.and_eq_true, decide_eq_true_eq] at this
 exact this
theorem nodupB_spec : ∀ {l : List Nat}, nodupB l = true → l.Nodup
 | [], _ => List.nodup_nil
 | x :: t, h => by
  simp only [nodupB, Bool.and_eq_true, Bool.not_eq_true', List.any_eq_false] at h
  refine List.nodup_cons.2 ⟨fun hx => h.1 x hx (Nat.beq_refl x), nodupB_spec h.2⟩
theorem goodB_spec {L : List (List (List UInt8))} (h : goodB L = true) : GoodL L := by
 simp only [goodB, Bool.and_eq_true, List.all_eq_true, decide_eq_true_eq] at h
 exact ⟨fun ws hw => ⟨(h.1 ws hw).1, fun x hx => wordB_spec ((h.1 ws hw).2 x hx)⟩, nodupB_spec h.2⟩
theorem sizeA : decide (textA.size ≤ 1000000) && textA.data.toList.all (fun c => decide (c.toNat < 128)) && goodB (wordsC textA.data.toList) = true := by kernel_rfl
theorem sizeK : decide (textK.size ≤ 1000000) && textK.data.toList.all (fun c => decide (c.toNat < 128)) && goodB (wordsC textK.data.toList) = true := by kernel_rfl
end Go.Proofs.YtokeamebcdhnpaaGreatDoor
end

section
namespace Go.Proofs.YtokeamebcdhnpaaGreatDoor
open Go.RowKit Go.Rp Go.Shelf Go.Maps

/-- A block without cells. -/
def NoCell (W : World) (m : Nat) : Prop := (∀ i v, W.cell? ⟨m, i, none⟩ ≠ some v) ∧ ∀ c t z, W.heap[m]? ≠ some (.cells c t z)
theorem MapIs.nocell {W : World} {m : Nat} {kv : List (Value × Value)} (h : MapIs W m kv) : NoCell W m := by
 obtain ⟨es, clock, hb, _⟩ := h
 exact ⟨fun i v => by simp [World.cell?, hb], fun c t z => by rw [hb]; simp⟩
theorem MRng.nocell {W : World} {m r : Nat} {kv : List (Value × Value)} {I : List Nat} (h : MRng W m r kv I) : NoCell W r := by
 obtain ⟨es, clock, since, seen, c0, h1, h2, h3, hb, h5⟩ := h
 exact ⟨fun i v => by simp [World.cell?, hb], fun c t z => by rw [hb]; simp⟩
theorem row_nocell {W : World} {n : Nat} {e : TypeId} {size k : Nat} {v : Value} {xs : List Value} (h : W.ownsRow n e size v k xs) {m : Nat} (hm : NoCell W m) : v.ownBlock ≠ some m := by
 rcases h.2 with ⟨rfl, _⟩ | ⟨g, cap, cur, rfl, _, hgb, _⟩
 ·simp [Value.ownBlock]
 ·intro e
  obtain rfl : g = m := by simpa [Value.ownBlock] using e
  exact hm.2 _ _ _ hgb
theorem RMap.kept {n : Nat} {W W' : World} {m : Nat} {kv : List (Value × Value)} {E : List (Int × List Int)} (h : RMap n W m kv E) {q : Nat} (hq : NoCell W q) (hne : q ≠ m) (hg : W.grownBy W' (some q)) : RMap n W' m kv E :=
 ⟨h.1.kept hg (by simpa using Ne.symm hne), h.2.1, fun i h1 h2 => let ⟨v, e, hr⟩ := h.2.2 i h1 h2; ⟨v, e, hr.kept hg (.inr (row_nocell hr hq))⟩⟩
theorem RMap.ext {n : Nat} {W W' : World} {m : Nat} {kv : List (Value × Value)} {E : List (Int × List Int)} (h : RMap n W m kv E) (hx : Ext W W') : RMap n W' m kv E :=
 ⟨h.1.ext hx, h.2.1, fun i h1 h2 => let ⟨v, e, hr⟩ := h.2.2 i h1 h2; ⟨v, e, ownsRow_ext hr hx⟩⟩
theorem RMap.lower {n n' : Nat} {W : World} {m : Nat} {kv : List (Value × Value)} {E : List (Int × List Int)} (h : RMap n W m kv E) (hn : n' ≤ n) : RMap n' W m kv E :=
 ⟨h.1, h.2.1, fun i h1 h2 => let ⟨v, e, hr⟩ := h.2.2 i h1 h2; ⟨v, e, own_lower hr hn⟩⟩
/-- The tables while they are made. -/
structure LdSt (W : World) (n mA mK jB sB oB tB : Nat) (kvA kvK kvJ kvS kvO : List (Value × Value)) (EA EK : List (Int × List Int)) (os : Value) : Prop where
 t : W.heap[tB]? = some (.cells #[.map (some mA), .map (some mK), .map (some jB), os, .map (some sB)] 104 (0, 0))
 a : RMap n W mA kvA EA
 k : RMap n W mK kvK EK
 j : MapIs W jB kvJ
 s : MapIs W sB kvS
 o : MapIs W oB kvO
variable {W W' : World} {n mA mK jB sB oB tB : Nat} {kvA kvK kvJ kvS kvO : List (Value × Value)} {EA EK : List (Int × List Int)} {os : Value}
theorem LdSt.ext (h : LdSt W n mA mK jB sB oB tB kvA kvK kvJ kvS kvO EA EK os) (hx : Ext W W') : LdSt W' n mA mK jB sB oB tB kvA kvK kvJ kvS kvO EA EK os :=
 ⟨hx.blk h.t, h.a.ext hx, h.k.ext hx, h.j.ext hx, h.s.ext hx, h.o.ext hx⟩
/-- One map has turned, or a walk over one. -/
theorem LdSt.turn (h : LdSt W n mA mK jB sB oB tB kvA kvK kvJ kvS kvO EA EK os) {m : Nat} (hm : NoCell W m) (hg : W.grownBy W' (some m)) (ha : m ≠ mA) (hk : m ≠ mK) {kvJ' kvS' kvO' : List (Value × Value)} (hj : MapIs W' jB kvJ') (hs : MapIs W' sB kvS') (ho : MapIs W' oB kvO') : LdSt W' n mA mK jB sB oB tB kvA kvK kvJ' kvS' kvO' EA EK os := by
 refine ⟨(hg.block tB (blk_lt h.t) (fun e => ?_)).trans h.t, h.a.kept hm ha hg, h.k.kept hm hk hg, hj, hs, ho⟩
 have e : tB = m := by simpa using e
 subst e
 exact hm.2 _ _ _ h.t
theorem LdSt.turnJ (h : LdSt W n mA mK jB sB oB tB kvA kvK kvJ kvS kvO EA EK os) (hg : W.grownBy W' (some jB)) (hn : mA ≠ jB ∧ mK ≠ jB ∧ sB ≠ jB ∧ oB ≠ jB) {kvJ' : List (Value × Value)} (hj : MapIs W' jB kvJ') : LdSt W' n mA mK jB sB oB tB kvA kvK kvJ' kvS kvO EA EK os :=
 h.turn h.j.nocell hg (Ne.symm hn.1) (Ne.symm hn.2.1) hj (h.s.kept hg (by simpa using hn.2.2.1)) (h.o.kept hg (by simpa using hn.2.2.2))
theorem LdSt.turnS (h : LdSt W n mA mK jB sB oB tB kvA kvK kvJ kvS kvO EA EK os) (hg : W.grownBy W' (some sB)) (hn : mA ≠ sB ∧ mK ≠ sB ∧ jB ≠ sB ∧ oB ≠ sB) {kvS' : List (Value × Value)} (hs : MapIs W' sB kvS') : LdSt W' n mA mK jB sB oB tB kvA kvK kvJ kvS' kvO EA EK os :=
 h.turn h.s.nocell hg (Ne.symm hn.1) (Ne.symm hn.2.1) (h.j.kept hg (by simpa using hn.2.2.1)) hs (h.o.kept hg (by simpa using hn.2.2.2))
theorem LdSt.turnO (h : LdSt W n mA mK jB sB oB tB kvA kvK kvJ kvS kvO EA EK os) (hg : W.grownBy W' (some oB)) (hn : mA ≠ oB ∧ mK ≠ oB ∧ jB ≠ oB ∧ sB ≠ oB) {kvO' : List (Value × Value)} (ho : MapIs W' oB kvO') : LdSt W' n mA mK jB sB oB tB kvA kvK kvJ kvS kvO' EA EK os :=
 h.turn h.o.nocell hg (Ne.symm hn.1) (Ne.symm hn.2.1) (h.j.kept hg (by simpa using hn.2.2.1)) (h.s.kept hg (by simpa using hn.2.2.2)) ho
theorem LdSt.turnR (h : LdSt W n mA mK jB sB oB tB kvA kvK kvJ kvS kvO EA EK os) {r : Nat} (hm : NoCell W r) (hg : W.grownBy W' (some r)) (hn : mA ≠ r ∧ mK ≠ r ∧ jB ≠ r ∧ sB ≠ r ∧ oB ≠ r) : LdSt W' n mA mK jB sB oB tB kvA kvK kvJ kvS kvO EA EK os :=
 h.turn hm hg (Ne.symm hn.1) (Ne.symm hn.2.1) (h.j.kept hg (by simpa using hn.2.2.1)) (h.s.kept hg (by simpa using hn.2.2.2.1)) (h.o.kept hg (by simpa using hn.2.2.2.2))
/-- Two runes as a key. -/
abbrev pairV (p : Int × Int) : Value := .agg #[.int .i32 p.1, .int .i32 p.2]
theorem keyedP : Keyed Tryz.prog 109 := Keyed.of_law (deep_law_laid (m := 2) (by kernel_rfl) (by decide) (of_decide_eq_true (by kernel_rfl)) (by kernel_rfl) (by kernel_rfl))
theorem cellsPr : Tryz.prog.cellsOf 109 = 2 := by kernel_rfl
theorem cellsI32 : Tryz.prog.cellsOf 21 = 1 := by kernel_rfl
def OkP (x : Int × Int) : Prop := (-2147483648 ≤ x.1 ∧ x.1 < 2147483648) ∧ (-2147483648 ≤ x.2 ∧ x.2 < 2147483648)
theorem keyPr (x : Int × Int) (h : OkP x) : ∃ k, keyOf Tryz.prog 109 (pairV x) = some k := by
 have hkt : Tryz.prog.keyType 109 = true := by kernel_rfl
 obtain ⟨m, hm⟩ : ∃ m, Tryz.prog.types.size = m + 1 + 1 := ⟨Tryz.prog.types.size - 2, by kernel_rfl⟩
 have hu := Tryz.underlying109
 have hu3 : Tryz.prog.underlying 21 = some (.int .i32) := Tryz.underlying21
 have w1 : (Lit.int .i32 x.1).wf = true := by have := h.1; simp [Lit.wf, IntKind.min, IntKind.max, IntKind.bits, IntKind.signed]; omega
 have w2 : (Lit.int .i32 x.2).wf = true := by have := h.2; simp [Lit.wf, IntKind.min, IntKind.max, IntKind.bits, IntKind.signed]; omega
 unfold keyOf
 simp only [hu]
 rw [if_pos (by simp [hkt, Value.formed, hu, cellsPr]), hm]
 unfold Program.keyLits
 simp [hu, Value.cells, cellsPr, Program.keyLits, hu3, w1, w2, cellsI32]
/-- What joins to what, by the lines at some places. -/
def jnE (out : List Int) (e : Int × List Int) : Option ((Int × Int) × Int) := match e.2 with
 | [a, b] => if e.1 ∈ out then none else some ((a, b), e.1)
 | _ => none
def encJ (p : (Int × Int) × Int) : Value × Value := (pairV p.1, .int .i32 p.2)
def ones (l : List Int) : List (Value × Value) := l.map fun r => (.int .i32 r, .int .i64 1)
theorem ones_keys {l : List Int} (h : ∀ r ∈ l, 0 ≤ r ∧ r < 16777216) : ∀ p ∈ ones l, ∃ q, keyOf Tryz.prog 21 p.1 = some q := by
 intro p hp
 obtain ⟨r, hr, rfl⟩ := List.mem_map.1 hp
 have := h r hr
 exact ⟨_, key_i32 this.1 (by omega)⟩
end Go.Proofs.YtokeamebcdhnpaaGreatDoor
end
