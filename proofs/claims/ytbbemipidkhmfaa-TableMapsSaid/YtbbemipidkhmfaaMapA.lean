/-
  The program's Map: its predicates.
-/
import Derived.Test.YtbbemipidkhmfaaWalkV
import Derived.Test.YtbbemipidkhmfaaOpen
namespace Go.Proofs.Ytbbemipidkhmfaa
open Go.RowKit Go.Maps Go.Shelf

/-- A predicate on numbers. -/
def PredI (g : Nat) (p : Int → Bool) (w : World) : Prop := ∀ x w', Ext w w' → Calls Try.prog g #[.int .i64 x] w' fun e w'' => e = .returned (.bool (p x)) ∧ Ext w' w''
theorem c_notCls (w : World) : PredI 62 (fun c => !isCls c) w := by
  intro c w1 hx1
  go_enter Try.func62, Try.ntmps62
  go_wp2_with fail
  refine (c_isClass c w1).mono ?_
  rintro e w2 ⟨rfl, rfl⟩
  obtain ⟨b, hb⟩ : ∃ b, isCls c = b := ⟨_, rfl⟩
  rw [hb]
  go_wp2_with fail
  go_ret
  exact ⟨by rw [hb]; rfl, Ext.refl _⟩

set_option maxRecDepth 100000 in
set_option maxHeartbeats 4000000 in
/-- Where a predicate first holds. -/
theorem c_IndexFuncI (v : Value) (l : List Int) (g : Nat) (p : Int → Bool) (w : World) (h : IRow .i64 w v l) (hp : PredI g p w) (eg : ∀ args w, (callFunc g args).run Try.prog w = .ok (.enter g args) w) (hn : l.length ≤ 2000000) :
    Calls Try.prog 80 #[v, .func (.func g) #[] #[]] w fun e w' => Ext w w' ∧ ((e = .returned (.int .i64 (-1)) ∧ ∀ x ∈ l, p x = false) ∨ ∃ (i : Nat) (hi : i < l.length), e = .returned (.int .i64 (i : Nat)) ∧ p l[i] = true) := by
  obtain ⟨pp, cap, rfl⟩ : ∃ p cap, v = .slice p l.length cap := by obtain ⟨p, cap, e, _⟩ := h; exact ⟨p, cap, e⟩
  go_enter Try.func80, Try.ntmps80
  go_wp2_with fail
  go_loopw [5, 8] (fun _ k w' => ∃ i : Nat, k = .int .i64 (i : Nat) ∧ i ≤ l.length ∧ Hid (∀ j (a : j < l.length), j < i → p l[j] = false) ∧ Ext w w') (fun _ k _ => l.length + 1 - (intOf k).toNat)
  case atStart => exact ⟨0, rfl, by omega, Lib.hid (fun j _ h => by omega), Ext.refl w⟩
  case round =>
    obtain ⟨i, rfl, hi, hsame, hx⟩ := hrel
    by_cases hlt : i < l.length
    · obtain ⟨b1, o1, rfl, hc1⟩ := (h.mono hx).at (by intro e; rw [e] at hlt; simp at hlt)
      have a1 := hc1 i hlt
      obtain ⟨x, hxe⟩ : ∃ x, l[i] = x := ⟨_, rfl⟩
      rw [hxe] at a1
      have HXE := Lib.hid hxe
      have hd : decide (i < l.length) = true := decide_eq_true hlt
      have i1 : ((i : Nat) : Int) < (l.length : Nat) := by omega
      clear hxe hc1
      go_wp2_with fail
      refine (hp x _ hx).mono ?_
      rintro e w6 ⟨rfl, hx6⟩
      obtain ⟨pb, hpb⟩ : ∃ pb, p x = pb := ⟨_, rfl⟩
      rw [hpb]
      have HPB := Lib.hid hpb
      clear hpb
      rcases Bool.eq_false_or_eq_true pb with rfl | rfl
      · go_wp2_with fail
        go_ret
        exact ⟨Ext.trans hx hx6, .inr ⟨i, hlt, rfl, by rw [HXE.out]; exact HPB.out⟩⟩
      · go_wp2_with fail
        refine ⟨⟨i + 1, by simp, by omega, Lib.hid (fun j a h => ?_), Ext.trans hx hx6⟩, by simp [intOf]; omega⟩
        rcases Nat.lt_succ_iff_lt_or_eq.1 h with h | h
        · exact hsame.out j a h
        · subst h
          rw [HXE.out]
          exact HPB.out
    · have hd : decide (i < l.length) = false := decide_eq_false hlt
      go_wp2_with fail
      go_ret
      refine ⟨hx, .inl ⟨rfl, fun x hx => ?_⟩⟩
      obtain ⟨j, hj, rfl⟩ := List.mem_iff_getElem.1 hx
      exact hsame.out j hj (by omega)
set_option maxRecDepth 100000 in
set_option maxHeartbeats 2000000 in
theorem c_ContainsFuncI (v : Value) (l : List Int) (g : Nat) (p : Int → Bool) (w : World) (h : IRow .i64 w v l) (hp : PredI g p w) (eg : ∀ args w, (callFunc g args).run Try.prog w = .ok (.enter g args) w) (hn : l.length ≤ 2000000) :
    Calls Try.prog 61 #[v, .func (.func g) #[] #[]] w fun e w' => e = .returned (.bool (l.any p)) ∧ Ext w w' := by
  go_enter Try.func61, Try.ntmps61
  go_wp2_with fail
  refine (c_IndexFuncI v l g p w h hp eg hn).mono ?_
  rintro e w1 ⟨hx1, (⟨rfl, hall⟩ | ⟨i, hi, rfl, hpi⟩)⟩
  · have hf : l.any p = false := by rw [List.any_eq_false]; intro x hx; simp [hall x hx]
    have HF := Lib.hid hf
    clear hf hall
    go_wp2_with fail
    go_ret
    exact ⟨by rw [HF.out]; rfl, hx1⟩
  · have hf : l.any p = true := List.any_eq_true.2 ⟨l[i], List.getElem_mem hi, hpi⟩
    have HF := Lib.hid hf
    have hge : decide ((0 : Int) ≤ (i : Nat)) = true := decide_eq_true (by omega)
    clear hf hpi
    go_wp2_with fail
    go_ret
    exact ⟨by rw [HF.out]; rfl, hx1⟩
set_option maxRecDepth 100000 in
set_option maxHeartbeats 2000000 in
theorem c_tooFar (B : Nat) (tp : Option Addr) (tn tc : Nat) (w : World) (h : Boxed w B 26 (.slice tp tn tc)) : PredR 65 #[.pointer (some ⟨B, 0, none⟩)] (fun x => decide (((tn : Nat) : Int) ≤ x.cl)) w := by
  intro x w1 hx1
  show Calls Try.prog 65 #[rgA x, .pointer (some ⟨B, 0, none⟩)] w1 _
  have hx2 : Ext w (w1.alloc (.cells #[.int .i32 x.lo, .int .i32 x.hi, .int .i64 x.cl] 32)) := Ext.alloc hx1 _
  have hbk : (w1.alloc (.cells #[.int .i32 x.lo, .int .i32 x.hi, .int .i64 x.cl] 32)).heap[w1.heap.size]? = some (.cells #[.int .i32 x.lo, .int .i32 x.hi, .int .i64 x.cl] 32) := World.alloc_heap_new w1 _
  have q1 : ∀ w', EOn (fun _ => True) (w1.alloc (.cells #[.int .i32 x.lo, .int .i32 x.hi, .int .i64 x.cl] 32)) w' → w'.cell? ⟨B, 0, none⟩ = some (.slice tp tn tc) := fun w' hx => hx.cell trivial (h.ext hx2).cell
  have q3 : ∀ w', EOn (fun _ => True) (w1.alloc (.cells #[.int .i32 x.lo, .int .i32 x.hi, .int .i64 x.cl] 32)) w' → w'.cell? ⟨w1.heap.size, 2, none⟩ = some (.int .i64 x.cl) := fun w' hx => hx.cell trivial (cell_blk hbk 2)
  have y1 := (h.ext hx2).cell
  have y2 := cell_blk hbk 2
  simp only [List.getElem?_toArray, List.getElem?_cons_succ, List.getElem?_cons_zero] at y2
  clear hbk
  go_enter Try.func65, Try.ntmps65
  go_wp2_with fail
  go_ret
  exact ⟨rfl, (Ext.refl w1).alloc _⟩
end Go.Proofs.Ytbbemipidkhmfaa
