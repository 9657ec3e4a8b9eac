/-
  The first range that may not be so.
-/
import Derived.Test.YtbbemipidkhmfaaWalkP
namespace Go.Proofs.Ytbbemipidkhmfaa
open Go.RowKit Go.Maps Go.Shelf

theorem RgRow.take {w : World} {p : Option Addr} {n cap : Nat} {l : List Rng} (h : RgRow w (.slice p n cap) l) (i : Nat) (hi : i ≤ l.length) : RgRow w (.slice p i cap) (l.take i) := by
  obtain ⟨p', cap', e, hcap, h2⟩ := h
  cases e
  have hl : (l.take i).length = i := by rw [List.length_take]; omega
  refine ⟨p, cap, by rw [hl], by omega, fun hne => ?_⟩
  obtain ⟨b, off, rfl, hb, hc⟩ := h2 (by intro e; rw [e] at hne; simp at hne)
  refine ⟨b, off, rfl, hb, fun k hk => ?_⟩
  have := hc k (by rw [hl] at hk; omega)
  rw [List.getElem_take]
  exact this

set_option maxRecDepth 100000 in
set_option maxHeartbeats 2000000 in
theorem c_ContainsFunc (v : Value) (l : List Rng) (g : Nat) (lb : Array Value) (p : Rng → Bool) (w : World) (h : RgRow w v l) (hp : PredR g lb p w) (eg : ∀ args w, (callFunc g args).run Try.prog w = .ok (.enter g args) w) (hn : l.length ≤ 2000000) :
    Calls Try.prog 64 #[v, .func (.func g) #[] lb] w fun e w' => e = .returned (.bool (l.any p)) ∧ Ext w w' := by
  go_enter Try.func64, Try.ntmps64
  go_wp2_with fail
  refine (c_IndexFunc v l g lb p w h hp eg hn).mono ?_
  rintro e w1 ⟨hx1, (⟨rfl, hall⟩ | ⟨i, hi, rfl, hpi, -⟩)⟩
  · have hf : l.any p = false := by rw [List.any_eq_false]; intro x hx; simp [hall x hx]
    have HF := Lib.hid hf
    clear hf hall
    go_wp2_with fail
    go_ret
    exact ⟨by rw [HF.out]; rfl, hx1⟩
  · have hf : l.any p = true := List.any_eq_true.2 ⟨l[i], List.getElem_mem hi, hpi⟩
    have HF := Lib.hid hf
    have hge : decide ((0 : Int) ≤ (i : Nat)) = true := decide_eq_true (by omega)
    clear hf hpi
    go_wp2_with fail
    go_ret
    exact ⟨by rw [HF.out]; rfl, hx1⟩

/-- Do two ranges meet? -/
def hits (x y : Rng) : Bool := decide (y.lo ≤ x.hi) && decide (x.lo ≤ y.hi)
set_option maxRecDepth 100000 in
set_option maxHeartbeats 2000000 in
theorem c_hits (x : Rng) (B : Nat) (w : World) (h : w.heap[B]? = some (.cells #[.int .i32 x.lo, .int .i32 x.hi, .int .i64 x.cl] 32)) : PredR 68 #[.pointer (some ⟨B, 0, none⟩)] (hits x) w := by
  intro y w1 hx1
  show Calls Try.prog 68 #[rgA y, .pointer (some ⟨B, 0, none⟩)] w1 _
  have hbk : (w1.alloc (.cells #[.int .i32 y.lo, .int .i32 y.hi, .int .i64 y.cl] 32)).heap[w1.heap.size]? = some (.cells #[.int .i32 y.lo, .int .i32 y.hi, .int .i64 y.cl] 32) := World.alloc_heap_new w1 _
  have hbx := (Ext.alloc hx1 (.cells #[.int .i32 y.lo, .int .i32 y.hi, .int .i64 y.cl] 32)).blk h
  have y0 := cell_blk hbk 0
  have y1 := cell_blk hbk 1
  have x0 := cell_blk hbx 0
  have x1 := cell_blk hbx 1
  simp only [List.getElem?_toArray, List.getElem?_cons_succ, List.getElem?_cons_zero] at x0 x1 y0 y1
  clear hbk hbx h
  by_cases h1 : y.lo ≤ x.hi
  · have hd : decide (y.lo ≤ x.hi) = true := decide_eq_true h1
    go_enter Try.func68, Try.ntmps68
    go_wp2_with fail
    go_ret
    exact ⟨by simp [hits, hd], (Ext.refl w1).alloc _⟩
  · have hd : decide (y.lo ≤ x.hi) = false := decide_eq_false h1
    go_enter Try.func68, Try.ntmps68
    go_wp2_with fail
    go_ret
    exact ⟨by simp [hits, hd], (Ext.refl w1).alloc _⟩

/-- May a range be so? -/
def okR (x : Rng) : Bool := decide (0 ≤ x.lo) && (decide (x.hi ≤ 1114111) && (decide (x.lo ≤ x.hi) && isCls x.cl))
theorem okR_iff {x : Rng} : okR x = true ↔ Ok1 x := by
  simp only [okR, isCls, Ok1, Bool.and_eq_true, decide_eq_true_eq]
  constructor
  · rintro ⟨a, b, c, d, e⟩; exact ⟨a, c, b, d, e⟩
  · rintro ⟨a, c, b, d, e⟩; exact ⟨a, b, c, d, e⟩
def checkGo : List Rng → List Rng → Nat → Int × Int
  | _, [], _ => (0, 0)
  | pre, x :: t, i => if okR x = false then (30, (i : Nat)) else if pre.any (hits x) = true then (8, (i : Nat)) else checkGo (pre ++ [x]) t (i + 1)
/-- The first fault of ranges. -/
def checkOf (l : List Rng) (rest : Int) : Int × Int := if isCls rest = false then (30, 0) else if 4096 < l.length then (6, 0) else checkGo [] l 0

set_option maxRecDepth 100000 in
set_option maxHeartbeats 4000000 in
theorem c_check (v : Value) (l : List Rng) (rest : Int) (w : World) (h : RgRow w v l) :
    Calls Try.prog 37 #[v, .int .i64 rest] w fun e w' => e = .returned (.tuple #[.int .i64 (checkOf l rest).1, .int .i64 (checkOf l rest).2]) ∧ Ext w w' := by
  obtain ⟨pp, cap, rfl, hcap⟩ : ∃ p cap, v = .slice p l.length cap ∧ l.length ≤ cap := by obtain ⟨p, cap, e, h1, _⟩ := h; exact ⟨p, cap, e, h1⟩
  obtain ⟨cb, hcb⟩ : ∃ cb, isCls rest = cb := ⟨_, rfl⟩
  have HCB := Lib.hid hcb
  go_enter Try.func37, Try.ntmps37
  go_wp2_with fail
  refine (c_isClass rest w).mono ?_
  rintro e w1 ⟨rfl, rfl⟩
  rw [hcb]
  clear hcb
  rcases Bool.eq_false_or_eq_true cb with rfl | rfl
  · by_cases hlen : 4096 < l.length
    · have hd : decide (4096 < l.length) = true := decide_eq_true hlen
      have e : checkOf l rest = (6, 0) := by rw [checkOf, if_neg (by rw [HCB.out]; simp), if_pos hlen]
      have E := Lib.hid e
      have hI : (4096 : Int) < (l.length : Nat) := by omega
      clear e hlen
      go_wp2_with fail
      exact bodyPost_ret (v := .tuple #[.int .i64 6, .int .i64 0]) (by simp [results, Try.results37, go_sem]) rfl ⟨by rw [E.out], Ext.refl _⟩
    · have hd : decide (4096 < l.length) = false := decide_eq_false hlen
      have hI : ¬ (4096 : Int) < (l.length : Nat) := by omega
      have hlen2 : l.length ≤ 4096 := by omega
      have heq : Hid (checkOf l rest = checkGo [] l 0) := Lib.hid (by rw [checkOf, if_neg (by rw [HCB.out]; simp), if_neg hlen])
      clear hlen
      go_wp2_with fail
      go_loopw [16] (fun k W => ∃ i : Nat, k = .int .i64 (i : Nat) ∧ i ≤ l.length ∧ Hid (checkGo (l.take i) (l.drop i) i = checkGo [] l 0) ∧ Ext w1 W) (fun k _ => l.length + 1 - (intOf k).toNat)
      case atStart => exact ⟨0, rfl, by omega, Lib.hid rfl, Ext.refl _⟩
      case round =>
        obtain ⟨i, rfl, hi, hgo, hx⟩ := hrel
        by_cases hlt : i < l.length
        · obtain ⟨b1, o1, rfl, hc1⟩ := (h.mono hx).at (by intro e; rw [e] at hlt; simp at hlt)
          obtain ⟨a1, a2, a3⟩ := hc1 i hlt
          have htk := (h.mono hx).take i hi
          have hdr := List.drop_eq_getElem_cons hlt
          have htk1 := List.take_succ_eq_append_getElem hlt
          obtain ⟨x, hxe⟩ : ∃ x, l[i] = x := ⟨_, rfl⟩
          rw [hxe] at a1 a2 a3 hdr htk1
          have HDR := Lib.hid hdr
          have HTK := Lib.hid htk1
          have hd : decide (i < l.length) = true := decide_eq_true hlt
          have i1 : ((i : Nat) : Int) < (l.length : Nat) := by omega
          have hbk := World.alloc_heap_new wr (.cells #[.int .i32 x.lo, .int .i32 x.hi, .int .i64 x.cl] 32)
          have hxA : Ext w1 (wr.alloc (.cells #[.int .i32 x.lo, .int .i32 x.hi, .int .i64 x.cl] 32)) := Ext.alloc hx _
          have htkA := htk.mono ((Ext.refl wr).alloc (.cells #[.int .i32 x.lo, .int .i32 x.hi, .int .i64 x.cl] 32))
          clear hxe hc1 hdr htk1 htk
          have hic : i ≤ cap := by omega
          have hzero : ¬ (cap = 0) := by omega
          by_cases h1 : 0 ≤ x.lo
          · have d1 : decide (x.lo < 0) = false := decide_eq_false (by omega)
            by_cases h2 : x.hi ≤ 1114111
            · have d2 : decide (1114111 < x.hi) = false := decide_eq_false (by omega)
              by_cases h3 : x.lo ≤ x.hi
              · have d3 : decide (x.hi < x.lo) = false := decide_eq_false (by omega)
                go_wp2_with fail
                refine (c_isClass x.cl _).mono ?_
                rintro e w2 ⟨rfl, rfl⟩
                obtain ⟨xb, hxb⟩ : ∃ xb, isCls x.cl = xb := ⟨_, rfl⟩
                have hok : okR x = xb := by simp [okR, *]
                have HOK := Lib.hid hok
                rw [hxb]
                clear hok hxb
                rcases Bool.eq_false_or_eq_true xb with rfl | rfl
                · go_wp2_with fail
                  refine (c_ContainsFunc _ (l.take i) 68 #[.pointer (some ⟨wr.heap.size, 0, none⟩)] (hits x) _ htkA (c_hits x _ _ hbk) (enters_of Try.func68 (by kernel_rfl) rfl) (by rw [List.length_take]; omega)).mono ?_
                  rintro e w3 ⟨rfl, hx3⟩
                  have hx13 := Ext.trans hxA hx3
                  obtain ⟨ab, hab⟩ : ∃ ab, (l.take i).any (hits x) = ab := ⟨_, rfl⟩
                  rw [hab]
                  have HAB := Lib.hid hab
                  clear hab
                  rcases Bool.eq_false_or_eq_true ab with rfl | rfl
                  · go_wp2_with fail
                    refine bodyPost_ret (v := .tuple #[.int .i64 8, .int .i64 (i : Nat)]) (by simp [results, Try.results37, go_sem]) rfl ⟨?_, hx13⟩
                    rw [heq.out, ← hgo.out, HDR.out, checkGo, if_neg (by rw [HOK.out]; simp), if_pos HAB.out]
                  · go_wp2_with fail
                    refine ⟨⟨i + 1, by simp, by omega, Lib.hid ?_, hx13⟩, by simp [intOf]; omega⟩
                    rw [← hgo.out, HTK.out, HDR.out]
                    conv => rhs; rw [checkGo]
                    rw [if_neg (by rw [HOK.out]; simp), if_neg (by rw [HAB.out]; simp)]
                · go_wp2_with fail
                  refine bodyPost_ret (v := .tuple #[.int .i64 30, .int .i64 (i : Nat)]) (by simp [results, Try.results37, go_sem]) rfl ⟨?_, hxA⟩
                  rw [heq.out, ← hgo.out, HDR.out, checkGo, if_pos HOK.out]
              · have d3 : decide (x.hi < x.lo) = true := decide_eq_true (by omega)
                have hok : okR x = false := by simp [okR, *]
                have HOK := Lib.hid hok
                clear hok
                go_wp2_with fail
                refine bodyPost_ret (v := .tuple #[.int .i64 30, .int .i64 (i : Nat)]) (by simp [results, Try.results37, go_sem]) rfl ⟨?_, hxA⟩
                rw [heq.out, ← hgo.out, HDR.out, checkGo, if_pos HOK.out]
            · have d2 : decide (1114111 < x.hi) = true := decide_eq_true (by omega)
              have hok : okR x = false := by simp [okR, *]
              have HOK := Lib.hid hok
              clear hok
              go_wp2_with fail
              refine bodyPost_ret (v := .tuple #[.int .i64 30, .int .i64 (i : Nat)]) (by simp [results, Try.results37, go_sem]) rfl ⟨?_, hxA⟩
              rw [heq.out, ← hgo.out, HDR.out, checkGo, if_pos HOK.out]
          · have d1 : decide (x.lo < 0) = true := decide_eq_true (by omega)
            have hok : okR x = false := by simp [okR, *]
            have HOK := Lib.hid hok
            clear hok
            go_wp2_with fail
            refine bodyPost_ret (v := .tuple #[.int .i64 30, .int .i64 (i : Nat)]) (by simp [results, Try.results37, go_sem]) rfl ⟨?_, hxA⟩
            rw [heq.out, ← hgo.out, HDR.out, checkGo, if_pos HOK.out]
        · have hd : decide (i < l.length) = false := decide_eq_false hlt
          go_wp2_with fail
          refine bodyPost_ret (v := .tuple #[.int .i64 0, .int .i64 0]) (by simp [results, Try.results37, go_sem]) rfl ⟨?_, hx⟩
          rw [heq.out, ← hgo.out, List.drop_eq_nil_of_le (by omega)]
          rfl
  · have e : checkOf l rest = (30, 0) := by rw [checkOf, if_pos HCB.out]
    have E := Lib.hid e
    clear e
    go_wp2_with fail
    exact bodyPost_ret (v := .tuple #[.int .i64 30, .int .i64 0]) (by simp [results, Try.results37, go_sem]) rfl ⟨by rw [E.out], Ext.refl _⟩
end Go.Proofs.Ytbbemipidkhmfaa
