/-
  A loop over an iterator whose body never leaves, and is told what comes next. The iterator over the chances; what stands at a text's end and is not seen. What stands at a text's end and is not seen.
-/
import Derived.RangeFuncKeeps
import Derived.RangeFuncFrom
import Derived.RangeFuncBound
import Derived.RangeFuncLeaves
import Derived.RangeFuncBox
import Derived.OwnWalkIn
import Derived.TacticsInMore
import Derived.BigFrameIn
import Derived.Test.YtlmkbldiicbejaaGreatDoorPlans
import Derived.Test.YtlmkbldiicbejaaGreatDoorLnGH
import Derived.Test.YtlmkbldiicbejaaGreatDoorPlainM
import Derived.ScopeJumps
section
namespace Go.Proofs.YtlmkbldiicbejaaGreatDoor
open Go.RowKit

variable {F : Fence} {n : Nat} {P : Program}
/-- The iterator hands over xs, one by one. -/
def GivesP {α : Type} (F : Fence) (n : Nat) (P : Program) (g : Nat) (lb : Array Value) (encs : α → Array Value) (Kp : World → World → Prop) (xs : List α) (w : World) : Prop :=
  ∀ (l : Nat) (J : List α → World → Prop) (W : World), (∀ s A B, J s A → A.grownBy B none → J s B) → Ext w W →
    (∀ pre x W1, J pre W1 → (∃ t, xs = pre ++ x :: t) → YieldAt F (n - 1) P l (encs x) W1 fun e W' => e = .returned (.bool true) ∧ J (pre ++ [x]) W' ∧ Kp W1 W') →
    J [] W → CallsIn F n P g (#[.func (.yield l) #[] #[]] ++ lb) W fun e W' => (∃ v, e = .returned v) ∧ J xs W'
/-- How a round ends: it goes on. -/
def onPostP {α : Type} (Kp : World → World → Prop) (I : List α → World → Prop) (xs : List α) (W : World) : Exit → Act → World → Prop
  | .normal, _, W' => KeepsOthers W W' ∧ Kp W W' ∧ I xs W'
  | _, _, _ => False
theorem wpIn_rangeFunc_p {α : Type} {g : Operand} {ps : Array Tmp} {assign body : Code} {Q : Exit → Act → World → Prop} {a : Act} {w : World}
    (hro : F.round = none) (h1 : 1 ≤ n) {gf : Nat} {lb : Array Value} (hg : a.eval g = .func (.func gf) #[] lb) (hFg : F.fn gf) (eg : ∀ args w, (callFunc gf args).run P w = .ok (.enter gf args) w)
    {encs : α → Array Value} {Kp : World → World → Prop} {xs : List α} (hseq : GivesP F (n - 1) P gf lb encs Kp xs w)
    (hKt : ∀ {A B C : World}, Kp A B → Kp B C → Kp A C) (hKb : ∀ (W : World) (l : Nat) (o o' : Obj), w.heap.size ≤ l → W.heap[l]? = some o → o.isCells = false → Kp W (W.putObj l o')) (hps : ∀ x, (encs x).size = ps.size)
    (I : List α → World → Prop) (hI : OwnFrom w.heap.size I) (h0 : I [] w) (a₁ : α → Act)
    (hassign : ∀ (l : Nat) (x : α) (W : World) (K : Act → World → Prop), K (a₁ x) W →
      assign.wpIn (F.inRound l) (n - 1 - 1) P (Exit.then K (fun _ _ _ => False)) { tmps := (ps.zip (encs x)).foldl (fun t (p, v) => t.setIfInBounds p v) a.tmps, defers := [] } W)
    (hbody : ∀ (l : Nat) (pre : List α) (x : α) (W : World), I pre W → (∃ t, xs = pre ++ x :: t) → body.wpIn (F.inRound l) (n - 1 - 1) P (onPostP Kp I (pre ++ [x]) W) (a₁ x) W)
    (hdone : ∀ (D : Nat) (W : World), w.heap.size ≤ D → I xs W → W.heap[D]? = some (.deferred (some [])) → Q .normal { a with defers := { target := .collected D, args := #[] } :: a.defers } W) :
    (Code.rangeFunc g ps assign body).wpIn F n P Q a w := by
  refine wpIn_rangeFunc ?_
  intro fn hfn
  rw [hro]
  obtain ⟨rec, hrec⟩ : ∃ rec : LoopState → Loop, rec = fun st => { state := st, pending := none, fn, tmps := a.tmps, params := ps, assign, body, defers := w.heap.size } := ⟨_, rfl⟩
  obtain ⟨W1, hW1⟩ : ∃ W1, (w.alloc (.deferred (some []))).alloc (.loop (rec .ready)) = W1 := ⟨_, rfl⟩
  have hL1 : W1.heap[w.heap.size + 1]? = some (.loop (rec .ready)) := by
    rw [← hW1]
    have := World.alloc_heap_new (w.alloc (.deferred (some []))) (.loop (rec .ready))
    rwa [World.size_alloc] at this
  have hx1 : Ext w W1 := by rw [← hW1]; exact ((Ext.refl w).alloc _).alloc _
  have hK1 : W1.heap[w.heap.size]? = some (.deferred (some [])) := by
    rw [← hW1]; exact (Below.heap_alloc _ _ _ (by simp)).trans (World.alloc_heap_new w _)
  have hI1 : I [] W1 := by rw [← hW1]; exact hI.alloc _ (hI.alloc _ h0)
  have stay : ∀ {A B : World} {b : Nat} {o : Obj}, A.grownBy B none → A.heap[b]? = some o → B.heap[b]? = some o := fun hg ho =>
    (hg.block _ (Array.getElem?_eq_some_iff.1 ho).1 (fun e => by cases e)).trans ho
  refine ⟨w.heap.size + 1, [{ target := .collected w.heap.size, args := #[] }], W1, { target := .fn (.func gf) lb, args := #[.func (.yield (w.heap.size + 1)) #[] #[]] }, W1, gf,
    #[.func (.yield (w.heap.size + 1)) #[] #[]] ++ lb, W1, ?_, ?_, ?_, ?_, fun _ => h1, ?_⟩
  · rw [← hW1, hrec]; exact run_enterLoop_outer _ _ _ _ _
  · simp only [resolve, hg]
    simp [go_sem]
  · intro f' hf'; simp [Target.leads] at hf'; subst hf'; exact hFg
  · simp [invoke, go_sem, eg]
  · refine (hseq (w.heap.size + 1)
      (fun pre W => I pre W ∧ W.heap[w.heap.size + 1]? = some (.loop (rec .ready)) ∧ W.heap[w.heap.size]? = some (.deferred (some []))) W1
      (fun s A B hs hg' => ⟨hI s A B none hs.1 hg' (fun r e => by cases e), stay hg' hs.2.1, stay hg' hs.2.2⟩)
      hx1 ?_ ⟨hI1, hL1, hK1⟩).mono ?_
    · rintro pre x W ⟨hi, hl, hk⟩ hlen
      have hlt : w.heap.size + 1 < W.heap.size := (Array.getElem?_eq_some_iff.1 hl).1
      have hy := run_yield (P := P) (args := encs x) hl (by rw [hrec]; exact hps x)
      rw [hrec] at hy
      refine ⟨fn, _, assign, body, hy, roundIn_of_wpIn hfn (hassign _ x W _ ⟨_, run_beginRound hl (by rw [hrec]), ?_⟩)⟩
      have hl2 : (W.putObj (w.heap.size + 1) (.loop { rec .ready with state := .busy })).heap[w.heap.size + 1]? = some (.loop { rec .ready with state := .busy }) := World.putObj_heap_same hlt
      have hk2 : (W.putObj (w.heap.size + 1) (.loop { rec .ready with state := .busy })).heap[w.heap.size]? = some (.deferred (some [])) := (World.putObj_heap_other (by omega)).trans hk
      have hw2 : Kp W (W.putObj (w.heap.size + 1) (.loop { rec .ready with state := .busy })) := hKb _ _ _ _ (by omega) hl rfl
      refine wpIn_mono (hbody _ pre x _ (hI.putObj _ hi (by omega) hl rfl) hlen) ?_
      rintro e a3 W3 hp
      cases e with
      | normal =>
        obtain ⟨hk3, hkp3, hi3⟩ := hp
        have hl3 := hk3.same _ _ hl2 rfl
        have hr := run_endRound (P := P) none hl3
        rw [hrec] at hr hl3
        refine ⟨_, _, hr, ⟨rfl, ⟨hI.putObj _ hi3 (by omega) hl3 rfl, ?_, (World.putObj_heap_other (by omega)).trans (hk3.same _ _ hk2 rfl)⟩, hKt (hKt hw2 hkp3) (hKb _ _ _ _ (by omega) hl3 rfl)⟩⟩
        rw [hrec]
        exact World.putObj_heap_same (Array.getElem?_eq_some_iff.1 hl3).1
      | ret => exact hp.elim
      | exit id => exact hp.elim
      | goto t => exact hp.elim
      | panic ch => exact hp.elim
      | outgrown => exact hp.elim
    · rintro e W2 ⟨⟨v, rfl⟩, hi, hl, hk⟩
      exact ⟨none, _, by have := run_endLoop (P := P) hl (by rw [hrec]; simp); rw [hrec] at this; exact this, hdone _ _ (Nat.le_refl _) (hI.putObj _ hi (by omega) hl rfl) ((World.putObj_heap_other (by omega)).trans hk)⟩
end Go.Proofs.YtlmkbldiicbejaaGreatDoor
end

section
namespace Go.Proofs.YtlmkbldiicbejaaGreatDoor
open Go.RowKit Go.Rp Go.Maps Go.Cl Go.Shelf Go.Gr Go.Ln

theorem c_lnEach (s : ByteArray) (w : World) : Calls Tryz.prog 48 #[.string s] w fun e w' => e = .returned (.func (.func 58) #[] #[.pointer (some ⟨w.heap.size, 0, none⟩)]) ∧ w' = w.alloc (.cells #[.string s] 9) := by
  go_enter Tryz.func48, Tryz.ntmps48
  go_wp2_with fail
  exact ret_one rfl rfl rfl ⟨rfl, rfl⟩
/-- Cells of chances from some block on stay. -/
def KC (B : Nat) (A C : World) : Prop := A.heap.size ≤ C.heap.size ∧ ∀ (b : Nat) (c : Array Value) (z : Nat × Nat), B ≤ b → A.heap[b]? = some (.cells c 112 z) → C.heap[b]? = some (.cells c 112 z)
theorem KC.trans {B : Nat} {A C D : World} (h : KC B A C) (k : KC B C D) : KC B A D := ⟨Nat.le_trans h.1 k.1, fun b c z hb hc => k.2 b c z hb (h.2 b c z hb hc)⟩
theorem KC.of_ext {B : Nat} {A C : World} (h : Ext A C) : KC B A C := ⟨h.sz, fun _ _ _ _ hc => h.blk hc⟩
theorem KC.put {B : Nat} (W : World) (l : Nat) (o o' : Obj) (h : W.heap[l]? = some o) (ho : o.isCells = false) : KC B W (W.putObj l o') :=
  ⟨(grownBy_putObj' W l o').size, fun b c z _ hc => (World.putObj_heap_other (by intro e; subst e; rw [h] at hc; cases hc; cases ho)).trans hc⟩
theorem KC.own {B B' n : Nat} {A C : World} {v : Value} {xs : List Value} (h : KC B A C) (ho : A.ownsRow B' 112 2 v n xs) (hB : B ≤ B') : C.ownsRow B' 112 2 v n xs := by
  obtain ⟨h1, h2⟩ := ho
  refine ⟨h1, ?_⟩
  rcases h2 with h2 | ⟨g, cap, cur, a, b, c, d⟩
  · exact .inl h2
  · exact .inr ⟨g, cap, cur, a, b, h.2 g cur (0, 0) (by omega) c, d⟩
theorem chW_get : ∀ (l : List (Nat × Bool)) (i : Nat) (h : i < l.length), (chW l)[i * 2]? = some (.int .i64 (l[i].1 : Nat)) ∧ (chW l)[i * 2 + 1]? = some (.bool l[i].2)
  | [], i, h => by simp at h
  | x :: l, 0, _ => by simp [chW]
  | x :: l, i + 1, h => by
    obtain ⟨h1, h2⟩ := chW_get l i (by simpa using h)
    have e : chW (x :: l) = [.int .i64 (x.1 : Nat), .bool x.2] ++ chW l := by simp [chW]
    rw [e]
    refine ⟨?_, ?_⟩
    · rw [show (i + 1) * 2 = i * 2 + 2 by omega, List.getElem?_append_right (by simp)]; simpa using h1
    · rw [show (i + 1) * 2 + 1 = i * 2 + 1 + 2 by omega, List.getElem?_append_right (by simp)]; simpa using h2
theorem chW_len (l : List (Nat × Bool)) : (chW l).length = l.length * 2 := by
  induction l with
  | nil => rfl
  | cons x l ih =>
    have e : chW (x :: l) = [.int .i64 (x.1 : Nat), .bool x.2] ++ chW l := by simp [chW]
    rw [e, List.length_append, ih]
    simp
    omega
set_option maxRecDepth 100000 in
set_option maxHeartbeats 2000000 in
/-- The function that Each hands back. -/
theorem ln_gives (s : ByteArray) (n Bs B : Nat) (w0 w : World) (hT : TabsW w0) (hz : s.size ≤ 65536) (hx0 : Ext w0 w) (hB : B ≤ w.heap.size) (hBs : w0.heap[Bs]? = some (.cells #[.string s] 9 (0, 0))) :
    GivesP Fence.wide n Tryz.prog 58 #[.pointer (some ⟨Bs, 0, none⟩)] (fun x : Nat × Bool => #[Value.int .i64 (x.1 : Nat), Value.bool x.2]) (KC B) (chK s) w := by
  intro l J W hJ hW hY h0
  have hall : ∀ f, Fence.wide.fn f := fun _ => trivial
  have hdd : ∀ k : Nat, (Fence.wide.depth.isSome = true → 1 ≤ k) := fun k h => by cases h
  have hxW : Ext w0 W := hx0.trans hW
  have HB := Lib.hid (c_Chances s W (hT.ext hxW) hz)
  have hlen := chK_len s
  generalize chK s = D at *
  have HJ := Lib.hid hJ
  have HY := Lib.hid hY
  have H0 := Lib.hid h0
  have ca := cell_blk (hxW.blk hBs) 0
  have HW := Lib.hid (Nat.le_trans hB hW.size)
  clear hJ hY h0 hW
  refine callsIn_of_wp Tryz.func58 rfl (hall _) ?_ rfl
  simp only [Tryz.ntmps58, List.size_toArray, List.length_cons, List.length_nil, Nat.reduceAdd, Nat.reduceSub, Array.replicate_succ, Array.replicate_zero, List.push_toArray, List.append_toArray, List.nil_append, List.cons_append]
  gi_wp2_with fail
  refine ⟨hdd _, ?_⟩
  refine (callsIn_wide.2 HB.out).mono ?_
  rintro e w1 ⟨v, rfl, hown, hx1⟩
  have H1 := Lib.hid (HJ.out _ W w1 H0.out (grown_ext hx1 none))
  obtain ⟨p, cap, rfl⟩ := own_slice hown
  have HR := Lib.hid hown
  clear hown hx1 HB H0 ca
  gi_wp2_with fail
  gi_loopw [4, 8] (fun _ iv wr => ∃ i : Nat, iv = .int .i64 (i : Nat) ∧ i ≤ D.length ∧ Hid (J (D.take i) wr) ∧ Hid (wr.ownsRow W.heap.size 112 2 (.slice p D.length cap) D.length (chW D))) (fun _ iv _ => D.length + 1 - (intOf iv).toNat)
  case atStart => exact ⟨0, rfl, Nat.zero_le _, H1, HR⟩
  case round =>
    obtain ⟨i, rfl, hi, HJ2, HX2⟩ := hrel
    have hDI : ((D.length : Nat) : Int) ≤ 65538 := by omega
    by_cases hlt : i < D.length
    · have hI : ((i : Nat) : Int) < (D.length : Nat) := by omega
      have hd : decide (i < D.length) = true := decide_eq_true hlt
      obtain ⟨g, rfl, hg0, hg, hcc⟩ := own_at HX2.out (by omega)
      have hl2 := chW_len D
      obtain ⟨e0, e1⟩ := chW_get D i hlt
      have hc0 := (hcc (i * 2) (by omega)).trans e0
      have hc1 := (hcc (i * 2 + 1) (by omega)).trans e1
      have HXX := Lib.hid (show D.take (i + 1) = D.take i ++ [D[i]] from List.take_succ_eq_append_getElem hlt)
      have HPR := Lib.hid (show ∃ t, D = D.take i ++ D[i] :: t from ⟨D.drop (i + 1), by rw [← List.drop_eq_getElem_cons hlt, List.take_append_drop]⟩)
      generalize D[i] = x at hc0 hc1 HXX HPR
      obtain ⟨xa, xm⟩ := x
      simp only at hc0 hc1
      have HAL := Lib.hid ((Ext.refl wr).alloc (.cells #[.int .i64 (xa : Nat), .bool xm] 112))
      obtain ⟨fn, tmps, assign, body, hy, hRR⟩ := HY.out _ (xa, xm) (wr.alloc (.cells #[.int .i64 (xa : Nat), .bool xm] 112)) (HJ.out _ wr _ HJ2.out (World.grownBy_alloc wr _ none)) HPR.out
      dsimp only at hy
      clear hcc e0 e1 hl2 hg0 hg
      gi_wp2_with fail
      refine ⟨hdd _, ?_⟩
      refine hRR.mono ?_
      clear hRR
      rintro e W2 ⟨rfl, hJ2, hb2⟩
      have HJ3 := Lib.hid (show J (D.take (i + 1)) W2 by rw [HXX.out]; exact hJ2)
      have HX3 := Lib.hid hb2
      clear hJ2 hb2
      gi_wp2_with fail
      exact ⟨⟨i + 1, by simp, by omega, HJ3, Lib.hid (HX3.out.own (ownsRow_ext HX2.out HAL.out) HW.out)⟩, by simp only [intOf]; omega⟩
    · have hI : ¬ ((i : Nat) : Int) < (D.length : Nat) := by omega
      have hd : decide (i < D.length) = false := decide_eq_false hlt
      have HALL := Lib.hid (show D.take i = D from List.take_of_length_le (by omega))
      gi_wp2_with fail
      exact bodyPost_end (results_none rfl _ _ _) rfl ⟨⟨_, rfl⟩, by rw [← HALL.out]; exact HJ2.out⟩
/-- Is a rune one that is not seen at a line's end? -/
noncomputable def okT (r : Nat) : Bool := decide (clsL r = 4 ∨ clsL r = 1 ∨ clsL r = 2 ∨ clsL r = 3 ∨ clsL r = 5)
/-- Is a rune one that ends a line? -/
noncomputable def okI (r : Nat) : Bool := decide (clsL r = 1 ∨ clsL r = 2 ∨ clsL r = 3)
set_option maxRecDepth 100000 in
set_option maxHeartbeats 2000000 in
theorem c_uLast (s : ByteArray) (w : World) (hT : TabsW w) (hs : s.size ≠ 0) (hz : s.size ≤ 65536) :
    Calls Tryz.prog 52 #[.string s] w fun e w' => e = .returned (.tuple #[.int .i32 (Lib.decodeLastL s.data.toList).1, .int .i64 (Lib.decodeLastL s.data.toList).2]) ∧ Ext w w' := by
  have hne := emp_false (s := s) (by omega)
  have HL := Lib.hid (Tryz.utf8_DecodeLastRuneInString s w (by omega) hT.u8)
  generalize Lib.decodeLastL s.data.toList = d at HL ⊢
  go_enter Tryz.func52, Tryz.ntmps52
  go_wp2_with fail
  refine HL.out.mono ?_
  rintro e w1 ⟨rfl, hx⟩
  have HX := Lib.hid (show Ext w w1 from hx)
  clear hx HL
  go_wp2_with fail
  exact ret_two rfl rfl rfl rfl ⟨rfl, HX.out⟩
end Go.Proofs.YtlmkbldiicbejaaGreatDoor
end

section
namespace Go.Proofs.YtlmkbldiicbejaaGreatDoor
open Go.RowKit Go.Rp Go.Maps Go.Cl Go.Shelf Go.Gr Go.Ln

theorem noGoto_ret {Q : Exit → Act → World → Prop} {a : Act} {w : World} (h : Q .ret a w) : Exit.noGoto Q .ret a w := h
theorem size_neL {s : ByteArray} (h : s.size ≠ 0) : s.data.toList ≠ [] := fun e => by
  have := len_eq s
  rw [e] at this
  simp at this
  omega
theorem lastL_wid (l : List UInt8) (h : l ≠ []) : 1 ≤ (Lib.decodeLastL l).2 ∧ (Lib.decodeLastL l).2 ≤ l.length ∧ (Lib.decodeLastL l).1 ≤ 1114111 := by
  have hl := List.length_pos_iff.2 h
  have hdm : ∀ x : List UInt8, (Lib.decodeL x).1 ≤ 1114111 := fun x => by
    rw [decodeL_dec]
    unfold dec
    have := (x.getD 0 0).toNat_lt
    unfold Go.Lib.decodeN
    repeat' split
    all_goals (simp only; omega)
  have hdp : ∀ x : List UInt8, 1 ≤ (Lib.decodeL x).2 := fun x => by
    rw [decodeL_dec]
    exact wid_pos x
  unfold Lib.decodeLastL
  rw [if_neg h]
  split
  · have := (l.getD (l.length - 1) 0).toNat_lt
    exact ⟨Nat.le_refl _, hl, by simp only; omega⟩
  · simp only
    split
    · rename_i e
      exact ⟨hdp _, by omega, hdm _⟩
    · exact ⟨Nat.le_refl _, hl, by simp [Utf8.runeError]⟩
set_option maxRecDepth 100000 in
set_option maxHeartbeats 2000000 in
theorem c_Trail (s : ByteArray) (w : World) (hT : TabsW w) (hz : s.size ≤ 65536) :
    Calls Tryz.prog 40 #[.string s] w fun e w' => e = .returned (.int .i64 (trailL okT s.size s.data.toList : Nat)) ∧ Ext w w' := by
  have HT := Lib.hid hT
  have HN := Lib.hid (c_New textLp.data.toList w hT (textB_spec textLp_ok))
  clear hT
  have HE := Lib.hid (show trailL okT s.size s.data.toList = trailL okT s.size s.data.toList from rfl)
  obtain ⟨E, hE⟩ : ∃ E, trailL okT s.size s.data.toList = E := ⟨_, rfl⟩
  rw [hE]
  replace HE := Lib.hid hE
  clear hE
  go_enter Tryz.func40, Tryz.ntmps40
  go_wp2_with fail
  refine wp_scope_straight ?_
  go_wp2_with fail
  refine calls_arg (v := .string ⟨textLp.data.toList.toArray⟩) (by kernel_rfl) (HN.out.mono ?_)
  rintro e w1 ⟨db, rfl, h1, h2⟩
  have HD := Lib.hid h1
  have HX1 := Lib.hid h2
  clear h1 h2 HN
  go_wp2_with fail
  refine wp_label ?_
  go_wp2_with fail
  go_loopw [0, 6, 7] (fun sv _ _ W => ∃ (t : ByteArray) (f : Nat), sv = .string t ∧ t.size ≤ f ∧ t.size ≤ s.size ∧ Hid (trailL okT f t.data.toList = E) ∧ Hid (Ext w1 W)) (fun sv _ _ _ => match sv with | .string t => t.size | _ => 0)
  case atStart => exact ⟨s, s.size, rfl, Nat.le_refl _, Nat.le_refl _, HE, Lib.hid (Ext.refl _)⟩
  case round =>
    obtain ⟨t, f, rfl, hf, hts, HF, HX⟩ := hrel
    obtain ⟨W, rfl⟩ : ∃ W, W = wr := ⟨_, rfl⟩
    by_cases h0 : t.size = 0
    · have hI : ¬ (0 : Int) < (t.size : Nat) := by omega
      have HR := Lib.hid (show t.size = E by
        rw [← HF.out]
        have : t.data.toList = [] := List.length_eq_zero_iff.1 ((len_eq t).trans h0)
        rw [this]
        cases f with
        | zero => simp [trailL, h0]
        | succ f => simp [trailL, h0])
      clear h0
      go_wp2_with fail
      refine bodyPost_ret (results_tmp rfl _ _ _) rfl ⟨?_, HX1.out.trans HX.out⟩
      exact congrArg (fun n : Nat => Ending.returned (.int .i64 (n : Nat))) HR.out
    · have hI : (0 : Int) < (t.size : Nat) := by omega
      have hl := size_neL h0
      obtain ⟨f', rfl⟩ : ∃ f', f = f' + 1 := ⟨f - 1, by omega⟩
      have HST := Lib.hid (show E = if okT (Lib.decodeLastL t.data.toList).1 = true then trailL okT f' (t.data.toList.take (t.data.toList.length - (Lib.decodeLastL t.data.toList).2)) else t.size by
        rw [← HF.out, trailL, if_neg hl, len_eq])
      have HL := Lib.hid (c_uLast t W (HT.out.ext (HX1.out.trans HX.out)) h0 (by omega))
      obtain ⟨hw1, hw2, hw3⟩ := lastL_wid t.data.toList hl
      rw [len_eq] at hw2 HST
      generalize Lib.decodeLastL t.data.toList = d at HL HST hw1 hw2 hw3
      clear hl h0
      go_wp2_with fail
      refine HL.out.mono ?_
      rintro e w2 ⟨rfl, hx⟩
      replace HX := Lib.hid (HX.out.trans hx)
      clear hx HL
      go_wp2_with fail
      refine (c_Get db _ rngL d.1 w2 (HD.out.ext HX.out) rngL_rise (by have := rngL_len; omega) (by omega) (by omega)).mono ?_
      rintro e w3 ⟨rfl, hx⟩
      replace HX := Lib.hid (HX.out.trans hx)
      clear hx
      rw [rnN_nat _ hw3]
      have HC := Lib.hid (show okT d.1 = decide (getR rngL d.1 = 4 ∨ getR rngL d.1 = 1 ∨ getR rngL d.1 = 2 ∨ getR rngL d.1 = 3 ∨ getR rngL d.1 = 5) from rfl)
      have htI : ((t.size : Nat) : Int) ≤ 65536 := by omega
      have hd2 : ((d.2 : Nat) : Int) ≤ (t.size : Nat) := by omega
      have hd3 : (1 : Int) ≤ ((d.2 : Nat) : Int) := by omega
      have HTL := Lib.hid (show (t.extract 0 (t.size - d.2)).data.toList = t.data.toList.take (t.size - d.2) by rw [toList_extract]; simp)
      have HTS := Lib.hid (show (t.extract 0 (t.size - d.2)).size = t.size - d.2 by simp)
      generalize getR rngL d.1 = c at HC ⊢
      by_cases hc : c ∈ [4, 1, 2, 3, 5]
      · have HOK := Lib.hid (show E = trailL okT f' (t.extract 0 (t.size - d.2)).data.toList by
          rw [HST.out, HTL.out, if_pos (by rw [HC.out]; simpa using hc)])
        simp only [List.mem_cons, List.not_mem_nil, or_false] at hc
        clear HC
        rcases hc with rfl | rfl | rfl | rfl | rfl
        all_goals
          go_wp2_with fail
          exact ⟨⟨t.extract 0 (t.size - d.2), f', by congr 1, by rw [HTS.out]; omega, by rw [HTS.out]; omega, Lib.hid HOK.out.symm, HX⟩, by have := HTS.out; simp only [this]; omega⟩
      · have HNO := Lib.hid (show t.size = E by
          rw [HST.out, if_neg (by rw [HC.out]; simpa using hc)])
        have hn := notIn hc
        have c4 : ((c : Int) == 4) = false := hn 4 (by decide)
        have c1 : ((c : Int) == 1) = false := hn 1 (by decide)
        have c2 : ((c : Int) == 2) = false := hn 2 (by decide)
        have c3 : ((c : Int) == 3) = false := hn 3 (by decide)
        have c5 : ((c : Int) == 5) = false := hn 5 (by decide)
        clear HC hc hn
        go_wp2_with fail
        refine noGoto_ret (bodyPost_ret (results_tmp rfl _ _ _) rfl ⟨?_, HX1.out.trans HX.out⟩)
        exact congrArg (fun n : Nat => Ending.returned (.int .i64 (n : Nat))) HNO.out
end Go.Proofs.YtlmkbldiicbejaaGreatDoor
end
