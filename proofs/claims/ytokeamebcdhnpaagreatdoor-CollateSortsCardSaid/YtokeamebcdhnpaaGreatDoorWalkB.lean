/-
 The lines of a text, one by one.
-/
import Derived.LoopIn
import Derived.Lib.IndexLaws
import Derived.RangeFuncCalls
import Derived.RangeFuncNested
import Derived.Test.YtokeamebcdhnpaaGreatDoorMapsR
import Derived.Test.YtokeamebcdhnpaaGreatDoorShelfs
import Derived.Test.YtokeamebcdhnpaaGreatDoorWalkA
namespace Go.Proofs.YtokeamebcdhnpaaGreatDoor
open Go.RowKit Go.Rp Go.Shelf

attribute [local go_sem] Oper.semAt_some

/-- How long the first line is. -/
def lineLen (s : ByteArray) : Nat := if 0 ≤ Lib.indexByte s.data.toList 10 then (Lib.indexByte s.data.toList 10).toNat + 1 else s.size
/-- The lines of a text. -/
def linesGo : Nat → ByteArray → List ByteArray
 | 0, _ => []
 | n + 1, s => if s.size = 0 then [] else s.extract 0 (lineLen s) :: linesGo n (s.extract (lineLen s) s.size)
def boxSize (b : Nat) (W : World) : Nat := match W.cell? ⟨b, 0, none⟩ with
 | some (.string s) => s.size
 | _ => 0
theorem boxSize_eq {b : Nat} {W : World} {t : TypeId} {s : ByteArray} (h : Boxed W b t (.string s)) : boxSize b W = s.size := by unfold boxSize; rw [h.cell]
theorem grown_of {W W' : World} (hx : Ext W W') {B : Nat} (_hB : B < W'.heap.size) (v : Value) : W.grownBy (W'.setCell ⟨B, 0, none⟩ v) (some B) :=
 have h := grownBy_setCell' W' B v
 ⟨h.os.trans hx.os, h.tape.trans hx.tape, h.output.trans hx.output, Nat.le_trans hx.size h.size, fun k hk hne => (h.block k (Nat.lt_of_lt_of_le hk hx.size) hne).trans (hx.block k hk)⟩
set_option maxRecDepth 100000 in
set_option maxHeartbeats 2000000 in
theorem lines_gives (n Bx n₀ : Nat) (s : ByteArray) (hs : s.size ≤ 1000000) (w : World) (hb : Boxed w Bx 9 (.string s)) :
  GivesB Fence.wide n Tryz.prog 110 #[.pointer (some ⟨Bx, 0, none⟩)] (fun x : ByteArray => #[Value.string x]) (fun W W' => W'.heap[Bx]? = W.heap[Bx]? ∧ Below n₀ W W') Bx (linesGo s.size s) w := by
 intro l J W hJ hW hsz hY h0
 have hbW : Boxed W Bx 9 (.string s) := hW.trans hb
 have hdd : ∀ k : Nat, (Fence.wide.depth.isSome = true → 1 ≤ k) := fun k h => by cases h
 have hall : ∀ f, Fence.wide.fn f := fun _ => trivial
 refine callsIn_of_wp Tryz.func110 rfl trivial ?_ rfl
 simp only [Tryz.ntmps110, List.size_toArray, List.length_cons, List.length_nil, Nat.reduceAdd, Nat.reduceSub, Array.replicate_succ, Array.replicate_zero, List.push_toArray, List.append_toArray, List.nil_append, List.cons_append]
 clear hb hW
 gi_wp2
 gi_loopw [] (fun wr => ∃ (pre : List ByteArray) (r : ByteArray) (k : Nat), linesGo s.size s = pre ++ linesGo k r ∧ r.size ≤ k ∧ r.size ≤ 1000000 ∧ Boxed wr Bx 9 (.string r) ∧ J pre wr) (fun wr => boxSize Bx wr)
 case atStart => exact ⟨[], s, s.size, rfl, Nat.le_refl _, hs, hbW, h0⟩
 case round =>
  obtain ⟨pre, r, k, hx, hk, hr, hbr, hJr⟩ := hrel
  have hbr0 := Lib.hid hbr
  have hc := hbr.cell
  have hf := hbr.frozen
  by_cases h0 : 0 < r.size
  ·obtain ⟨k, rfl⟩ : ∃ k', k = k' + 1 := ⟨k - 1, by omega⟩
   have hcall := callsIn_wide (n := n - 1).2 (Tryz.strings_IndexByte r 10 wr)
   gi_wp2
   refine ⟨hdd _, ?_⟩
   refine hcall.mono ?_
   rintro e w1 ⟨rfl, rfl⟩
   clear hcall
   by_cases hz : 0 ≤ Lib.indexByte r.data.toList 10
   ·obtain ⟨o, ho⟩ : ∃ o : Nat, Lib.indexByte r.data.toList 10 = o := ⟨_, (Int.toNat_of_nonneg hz).symm⟩
    have hol : o < r.size := by
     have := (Lib.indexByte_some ho).1
     have := (List.getElem?_eq_some_iff.1 this).1
     simpa using this
    have hll : lineLen r = o + 1 := by unfold lineLen; rw [if_pos hz, ho]; rfl
    have e10 : ((10 : Int).toNat.toUInt8) = 10 := rfl
    rw [e10, ho]
    have i1 : ((o : Nat) : Int) + 1 ≤ (r.size : Nat) := by omega
    have m1 : ∀ w', EOn (fun _ => True) w1 w' → w'.cell? ⟨Bx, 0, none⟩ = some (Value.string r) := fun w' hx => hx.cell trivial hc
    clear hz e10 hc hf
    gi_wp2
    refine wpIn_wide.2 ?_
    refine wp_lex (fun _ => True) [true, true, true, true, true, true, true, true, true] (by kernel_rfl) (by kernel_rfl) ?_
    repeat first
     | refine wpG_move' ?_
     | refine wpG_assign' ?_
     | refine wpG_val' ?_
     | refine wpG_no' ?_
    refine wpG_end (fun w2 hx2 => ?_)
    have hb2 := hbr.ext hx2
    have hc2 := hb2.cell
    have hf2 := hb2.frozen
    go_wp2_with fail
    refine gQ_normal ?_
    have hst := Lib.hid hll
    have HZ := Lib.hid (show ((r.extract (o + 1) r.size) : ByteArray).size < r.size by simp; omega)
    have hb3 := hb2.set (.string (r.extract (o + 1) r.size))
    have hg3 := grown_of hx2 hb2.lt (Value.string (r.extract (o + 1) r.size))
    have hJ3 := hJ pre _ _ (some Bx) hJr hg3 (by rintro _ e; cases e; rfl)
    generalize w2.setCell ⟨Bx, 0, none⟩ (.string (r.extract (o + 1) r.size)) = w3 at hb3 hg3 hJ3 ⊢
    have hstep : linesGo (k + 1) r = (r.extract 0 (o + 1)) :: linesGo k (r.extract (o + 1) r.size) := by
     rw [linesGo, if_neg (by omega), hst.out]
    have hlt : ∃ t, linesGo s.size s = pre ++ (r.extract 0 (o + 1)) :: t := ⟨linesGo k (r.extract (o + 1) r.size), by rw [hx, hstep]⟩
    obtain ⟨fn, tmps, assign, body, hy, hR⟩ := hY pre (r.extract 0 (o + 1)) w3 hJ3 hlt
    clear hb2 hx2 hJr hbr hg3
    try rw [hy]
    gi_wp2
    try refine ⟨hdd _, ?_⟩
    refine hR.mono ?_
    rintro e W3 ⟨rfl, hJ4, hk4, -⟩
    have hb4 : Boxed W3 Bx 9 (.string (r.extract (o + 1) r.size)) := hk4.trans hb3
    gi_wp2
    go_roundw
    case rel => exact ⟨pre ++ [(r.extract 0 (o + 1))], (r.extract (o + 1) r.size), k, by rw [hx, hstep]; simp, by have := HZ.out; omega, by have := HZ.out; omega, hb4, hJ4⟩
    case measure => rw [boxSize_eq hb4, boxSize_eq hbr0.out]; exact HZ.out
   ·have hll : lineLen r = r.size := by unfold lineLen; rw [if_neg hz]
    have hm1 : Lib.indexByte r.data.toList 10 = -1 := by have := Lib.indexByte_ge r.data.toList 10; omega
    have e10 : ((10 : Int).toNat.toUInt8) = 10 := rfl
    rw [e10, hm1]
    have m1 : ∀ w', EOn (fun _ => True) w1 w' → w'.cell? ⟨Bx, 0, none⟩ = some (Value.string r) := fun w' hx => hx.cell trivial hc
    have hx2 := Ext.refl w1
    have hb2 := hbr
    clear hz e10 m1
    gi_wp2
    have hg3 := grown_of hx2 hb2.lt (Value.string ⟨#[]⟩)
    have e1 : r.extract 0 r.size = r := by simp
    have e2 : r.extract r.size r.size = ⟨#[]⟩ := by simp; rfl
    have HZ := Lib.hid (show (⟨#[]⟩ : ByteArray).size < r.size by exact h0)
    have hb3 := hb2.set (.string ⟨#[]⟩)
    have hg3 := grown_of hx2 hb2.lt (Value.string ⟨#[]⟩)
    have hJ3 := hJ pre _ _ (some Bx) hJr hg3 (by rintro _ e; cases e; rfl)
    generalize w1.setCell ⟨Bx, 0, none⟩ (.string ⟨#[]⟩) = w3 at hb3 hg3 hJ3 ⊢
    have hstep : linesGo (k + 1) r = r :: linesGo k ⟨#[]⟩ := by
     rw [linesGo, if_neg (by omega), hll, e1, e2]
    have hlt : ∃ t, linesGo s.size s = pre ++ r :: t := ⟨linesGo k ⟨#[]⟩, by rw [hx, hstep]⟩
    obtain ⟨fn, tmps, assign, body, hy, hR⟩ := hY pre r w3 hJ3 hlt
    clear hb2 hx2 hJr hbr hg3
    try rw [hy]
    gi_wp2
    try refine ⟨hdd _, ?_⟩
    refine hR.mono ?_
    rintro e W3 ⟨rfl, hJ4, hk4, -⟩
    have hb4 : Boxed W3 Bx 9 (.string ⟨#[]⟩) := hk4.trans hb3
    gi_wp2
    go_roundw
    case rel => exact ⟨pre ++ [r], ⟨#[]⟩, k, by rw [hx, hstep]; simp, by have := HZ.out; omega, by have := HZ.out; omega, hb4, hJ4⟩
    case measure => rw [boxSize_eq hb4, boxSize_eq hbr0.out]; exact HZ.out
  ·have hrz : r.size = 0 := by omega
   have hx0 : linesGo s.size s = pre := by
    rw [hx]
    cases k with
    | zero => simp [linesGo]
    | succ k => simp [linesGo, hrz]
   have hrI : ¬ 0 < ((r.size : Nat) : Int) := by omega
   have HX := Lib.hid hx
   have HX0 := Lib.hid hx0
   clear hx hx0
   gi_wp2
   go_end0
   exact ⟨⟨_, rfl⟩, by rw [HX0.out]; exact hJr⟩
end Go.Proofs.YtokeamebcdhnpaaGreatDoor
