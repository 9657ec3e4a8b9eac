/-
  The pair's classes: the map that finds them.
-/
import Derived.Test.YtbbemipidkhmfaaWalkD
import Derived.Test.YtbbemipidkhmfaaRefK
import Derived.Test.YtbbemipidkhmfaaRefM
namespace Go.Proofs.Ytbbemipidkhmfaa
section
open Go.RowKit

/-- The place of a pair of classes; past the end: it is not there. -/
def fnd : List (Int × Int) → Int × Int → Nat
  | [], _ => 0
  | y :: t, x => if y = x then 0 else fnd t x + 1
theorem fnd_le : ∀ (D : List (Int × Int)) (x : Int × Int), fnd D x ≤ D.length
  | [], _ => by simp [fnd]
  | y :: t, x => by rw [fnd]; split; simp; have := fnd_le t x; simp; omega
theorem fnd_at : ∀ {D : List (Int × Int)} {x : Int × Int} (h : fnd D x < D.length), D[fnd D x] = x
  | [], x, h => by simp [fnd] at h
  | y :: t, x, h => by
    by_cases e : y = x
    · have e2 : fnd (y :: t) x = 0 := by rw [fnd, if_pos e]
      simp only [e2]
      exact e
    · have e2 : fnd (y :: t) x = fnd t x + 1 := by rw [fnd, if_neg e]
      simp only [e2, List.getElem_cons_succ]
      exact fnd_at (by rw [e2] at h; simpa using h)
theorem fnd_first : ∀ {D : List (Int × Int)} {x : Int × Int} {j : Nat} (hj : j < D.length), j < fnd D x → D[j] ≠ x
  | y :: t, x, 0, _, h => by
    intro e
    have e : y = x := e
    rw [fnd, if_pos e] at h
    omega
  | y :: t, x, j + 1, hj, h => by
    rw [List.getElem_cons_succ]
    refine fnd_first (by simpa using hj) ?_
    rw [fnd] at h
    split at h
    · omega
    · omega
theorem fnd_none {D : List (Int × Int)} {x : Int × Int} (h : ∀ y ∈ D, y ≠ x) : fnd D x = D.length := by
  rcases Nat.lt_or_ge (fnd D x) D.length with h1 | h1
  · exact absurd (fnd_at h1) (h _ (List.getElem_mem h1))
  · have := fnd_le D x; omega
theorem fnd_is {D : List (Int × Int)} {x : Int × Int} {j : Nat} (hj : j < D.length) (h : D[j] = x) (hn : D.Nodup) : fnd D x = j := by
  have h1 : fnd D x ≤ j := by
    rcases Nat.lt_or_ge j (fnd D x) with h2 | h2
    · exact absurd h (fnd_first hj h2)
    · exact h2
  have h2 : fnd D x < D.length := by omega
  have h3 := fnd_at h2
  rcases Nat.lt_or_ge (fnd D x) j with h4 | h4
  · have := List.pairwise_iff_getElem.1 hn (fnd D x) j h2 hj h4
    exact absurd (h3.trans h.symm) this
  · omega
/-- Its list with a pair that may be new. -/
def ins (D : List (Int × Int)) (x : Int × Int) : List (Int × Int) := if fnd D x < D.length then D else D ++ [x]
theorem ins_nodup {D : List (Int × Int)} {x : Int × Int} (h : D.Nodup) : (ins D x).Nodup := by
  unfold ins
  split
  · exact h
  · rename_i hn
    refine List.nodup_append.2 ⟨h, by simp, fun a ha b hb => ?_⟩
    simp at hb
    subst hb
    intro e
    subst e
    obtain ⟨j, hj, e⟩ := List.mem_iff_getElem.1 ha
    have := fnd_is hj e h
    omega
theorem ins_len (D : List (Int × Int)) (x : Int × Int) : D.length ≤ (ins D x).length ∧ (ins D x).length ≤ D.length + 1 ∧ fnd D x < (ins D x).length := by
  have := fnd_le D x
  unfold ins
  split
  · exact ⟨Nat.le_refl _, by omega, by assumption⟩
  · simp; omega
/-- Parts without gap. -/
def Seg : Int → List Rng → Int → Prop
  | s, [], e => s = e
  | s, x :: t, e => x.lo = s ∧ x.lo ≤ x.hi ∧ Seg (x.hi + 1) t e
theorem Seg.snoc {x : Rng} {e : Int} (hx : x.lo = e ∧ x.lo ≤ x.hi) : ∀ {l : List Rng} {s : Int}, Seg s l e → Seg s (l ++ [x]) (x.hi + 1)
  | [], s, h => by rw [Seg] at h; exact ⟨by rw [h]; exact hx.1, hx.2, rfl⟩
  | y :: t, s, ⟨h1, h2, h3⟩ => ⟨h1, h2, h3.snoc hx⟩
theorem Seg.le : ∀ {l : List Rng} {s e : Int}, Seg s l e → s + l.length ≤ e
  | [], s, e, h => by rw [Seg] at h; simp; omega
  | y :: t, s, e, ⟨h1, h2, h3⟩ => by have := h3.le; simp only [List.length_cons]; omega
theorem Seg.ge : ∀ {l : List Rng} {s e : Int}, Seg s l e → ∀ y ∈ l, s ≤ y.lo
  | x :: t, s, e, ⟨h1, h2, h3⟩, y, hy => by
    rcases List.mem_cons.1 hy with rfl | hy
    · omega
    · have := h3.ge y hy; omega
theorem Seg.rise : ∀ {l : List Rng} {s e : Int}, Seg s l e → 0 ≤ s → e ≤ 1114112 → (∀ x ∈ l, 0 ≤ x.cl ∧ x.cl ≤ 255) → Rise l
  | [], _, _, _, _, _, _ => trivial
  | x :: t, s, e, ⟨h1, h2, h3⟩, h0, he, hc => by
    have hle := h3.le
    exact ⟨⟨by omega, h2, by omega, hc x (by simp)⟩, fun y hy => by have := h3.ge y hy; omega, h3.rise (by omega) he fun y hy => hc y (by simp [hy])⟩
/-- Runs of which the first is one that holds a number. -/
def CurR (f : Int → Int) (lo : Int) (l : List Rng) : Prop := ∃ s, RunsFrom f s 1114112 l ∧ s ≤ lo ∧ ∀ x ∈ l.head?, lo ≤ x.hi
theorem CurR.zero {f : Int → Int} {l : List Rng} (h : RunsFrom f 0 1114112 l) : CurR f 0 l := by
  refine ⟨0, h, Int.le_refl _, fun x hx => ?_⟩
  cases l with
  | nil => simp at hx
  | cons y t =>
    simp at hx
    subst hx
    have := h.1
    have := h.2.1
    omega
theorem CurR.cons {f : Int → Int} {lo : Int} {l : List Rng} (h : CurR f lo l) (hl : lo ≤ 1114111) : ∃ x t, l = x :: t ∧ x.lo ≤ lo ∧ lo ≤ x.hi ∧ x.hi ≤ 1114111 ∧ f x.lo = x.cl ∧ 0 ≤ x.hi + 1 - lo := by
  obtain ⟨s, h1, h2, h3⟩ := h
  cases l with
  | nil => rw [RunsFrom] at h1; omega
  | cons x t =>
    have h4 := h3 x rfl
    obtain ⟨a1, a2, a3, a4, a5⟩ := h1
    have := a5.le
    exact ⟨x, t, rfl, by omega, h4, by omega, a3 x.lo (Int.le_refl _) a2, by omega⟩
theorem CurR.next {f : Int → Int} {lo hi : Int} {x : Rng} {t : List Rng} (h : CurR f lo (x :: t)) (h1 : lo ≤ hi) (h2 : hi ≤ x.hi) : CurR f (hi + 1) (if x.hi = hi then t else x :: t) := by
  obtain ⟨s, ⟨a1, a2, a3, a4, a5⟩, b2, b3⟩ := h
  split
  · rename_i e
    refine ⟨x.hi + 1, a5, by omega, fun y hy => ?_⟩
    cases t with
    | nil => simp at hy
    | cons z u =>
      simp at hy
      subst hy
      have := a5.1
      have := a5.2.1
      omega
  · exact ⟨s, ⟨a1, a2, a3, a4, a5⟩, by omega, fun y hy => by simp at hy; subst hy; omega⟩
/-- The pair's runs and its classes. -/
def pgo : Nat → Int → List Rng → List Rng → List (Int × Int) → List Rng → List (Int × Int) × List Rng
  | f + 1, lo, x :: xs, y :: ys, D, l =>
    if lo ≤ 1114111 then
      pgo f ((if y.hi < x.hi then y.hi else x.hi) + 1) (if x.hi = (if y.hi < x.hi then y.hi else x.hi) then xs else x :: xs) (if y.hi = (if y.hi < x.hi then y.hi else x.hi) then ys else y :: ys) (ins D (x.cl, y.cl)) (l ++ [⟨lo, if y.hi < x.hi then y.hi else x.hi, (fnd D (x.cl, y.cl) : Nat)⟩])
    else (D, l)
  | _, _, _, _, D, l => (D, l)
theorem pgo_end {f : Nat} {lo : Int} {xs ys : List Rng} {D : List (Int × Int)} {l : List Rng} (h : ¬ lo ≤ 1114111) : pgo f lo xs ys D l = (D, l) := by
  unfold pgo
  split
  · rw [if_neg h]
  · rfl
theorem pgo_step {f : Nat} {lo hi : Int} {x y : Rng} {xs ys : List Rng} {D : List (Int × Int)} {l : List Rng} (h : lo ≤ 1114111) (hhi : (if y.hi < x.hi then y.hi else x.hi) = hi) :
    pgo (f + 1) lo (x :: xs) (y :: ys) D l = pgo f (hi + 1) (if x.hi = hi then xs else x :: xs) (if y.hi = hi then ys else y :: ys) (ins D (x.cl, y.cl)) (l ++ [⟨lo, hi, (fnd D (x.cl, y.cl) : Nat)⟩]) := by
  subst hhi
  conv => lhs; unfold pgo
  rw [if_pos h]
/-- What holds of the lists so far. -/
def PSt (lo : Int) (D : List (Int × Int)) (l : List Rng) : Prop := Seg 0 l lo ∧ D.Nodup ∧ (∀ x ∈ l, 0 ≤ x.cl ∧ x.cl < D.length) ∧ D.length ≤ l.length
theorem PSt.zero : PSt 0 [] [] := ⟨rfl, List.nodup_nil, by simp, Nat.le_refl _⟩
theorem PSt.step {lo hi : Int} {D : List (Int × Int)} {l : List Rng} (h : PSt lo D l) (x : Int × Int) (hl : lo ≤ hi) : PSt (hi + 1) (ins D x) (l ++ [⟨lo, hi, (fnd D x : Nat)⟩]) := by
  obtain ⟨h1, h2, h3, h4⟩ := h
  obtain ⟨g1, g2, g3⟩ := ins_len D x
  refine ⟨h1.snoc ⟨rfl, hl⟩, ins_nodup h2, fun y hy => ?_, by simp; omega⟩
  rcases List.mem_append.1 hy with hy | hy
  · have := h3 y hy; omega
  · simp at hy
    subst hy
    exact ⟨by simp, by show ((fnd D x : Nat) : Int) < _; omega⟩
theorem drop_next {L t : List Rng} {i : Nat} {x : Rng} (h : L.drop i = x :: t) : L.drop (i + 1) = t := by
  have := congrArg (List.drop 1) h
  simpa [List.drop_drop] using this
/-- The pair's classes and runs. -/
def pairOf (R1 R2 : List Rng) (r1 r2 : Int) : List (Int × Int) × List Rng × Nat :=
  (ins (pgo 1114113 0 R1 R2 [] []).1 (r1, r2), (pgo 1114113 0 R1 R2 [] []).2, fnd (pgo 1114113 0 R1 R2 [] []).1 (r1, r2))
end
section
open Go.RowKit Go.Maps

abbrev twA (x : Int × Int) : Value := .agg #[.int .i64 x.1, .int .i64 x.2]
def twCells : List (Int × Int) → List Value
  | [] => []
  | x :: t => .int .i64 x.1 :: .int .i64 x.2 :: twCells t
theorem twCells_append : ∀ a b : List (Int × Int), twCells (a ++ b) = twCells a ++ twCells b
  | [], _ => rfl
  | x :: a, b => by simp [twCells, twCells_append a b]
theorem twCells_length : ∀ a : List (Int × Int), (twCells a).length = a.length * 2
  | [] => rfl
  | x :: a => by simp only [twCells, List.length_cons, twCells_length a]; omega
theorem twCells_get (a b : List (Int × Int)) (x : Int × Int) : (twCells (a ++ x :: b))[a.length * 2]? = some (.int .i64 x.1) ∧ (twCells (a ++ x :: b))[a.length * 2 + 1]? = some (.int .i64 x.2) := by
  rw [twCells_append]
  refine ⟨?_, ?_⟩
  · rw [List.getElem?_append_right (by rw [twCells_length]; omega), twCells_length, show a.length * 2 - a.length * 2 = 0 from by omega]
    rfl
  · rw [List.getElem?_append_right (by rw [twCells_length]; omega), twCells_length, show a.length * 2 + 1 - a.length * 2 = 1 from by omega]
    rfl
def entT (D : List (Int × Int)) : List (Value × Value) := D.zipIdx.map fun p => (twA p.1, .int .i64 ((p.2 : Nat) : Int))
theorem entT_snoc (D : List (Int × Int)) (x : Int × Int) : entT (D ++ [x]) = entT D ++ [(twA x, .int .i64 ((D.length : Nat) : Int))] := by simp [entT, List.zipIdx_append]
theorem twA_inj {a b : Int × Int} (h : twA a = twA b) : a = b := by
  cases a; cases b
  simp only [twA, Value.agg.injEq, Array.mk.injEq, List.cons.injEq, Value.int.injEq, true_and, and_true] at h
  exact Prod.ext h.1 h.2
theorem entT_mem {D : List (Int × Int)} {k v : Value} (h : (k, v) ∈ entT D) : ∃ (j : Nat) (hj : j < D.length), k = twA D[j] ∧ v = .int .i64 ((j : Nat) : Int) := by
  obtain ⟨⟨b, j⟩, hp, e⟩ := List.mem_map.1 h
  simp only [Prod.mk.injEq] at e
  obtain ⟨rfl, rfl⟩ := e
  obtain ⟨hj, hb⟩ := List.mem_zipIdx' hp
  exact ⟨j, hj, by rw [hb], rfl⟩
theorem entT_of {D : List (Int × Int)} {j : Nat} (hj : j < D.length) : (twA D[j], .int .i64 ((j : Nat) : Int)) ∈ entT D :=
  List.mem_map.2 ⟨(D[j], j), by rw [List.mem_zipIdx_iff_getElem?]; simp [hj], rfl⟩
def OkT (x : Int × Int) : Prop := (0 ≤ x.1 ∧ x.1 ≤ 255) ∧ (0 ≤ x.2 ∧ x.2 ≤ 255)
theorem keyedTw : Keyed Try.prog 102 := Keyed.of_law (deep_law_laid (m := 2) (by kernel_rfl) (by decide) (of_decide_eq_true (by kernel_rfl)) (by kernel_rfl) (by kernel_rfl))
theorem infoTp : (Try.prog.info? 102).map (fun i => (i.zero, i.size, i.bytes)) = some (some (.agg #[.int .i64 0, .int .i64 0]), 2, 16) := by kernel_rfl
theorem cellsTw : Try.prog.cellsOf 102 = 2 := by kernel_rfl
theorem cellsI : Try.prog.cellsOf 3 = 1 := by kernel_rfl
theorem keyTw (x : Int × Int) (h : OkT x) : ∃ k, keyOf Try.prog 102 (twA x) = some k := by
  have hkt : Try.prog.keyType 102 = true := by kernel_rfl
  obtain ⟨m, hm⟩ : ∃ m, Try.prog.types.size = m + 1 + 1 := ⟨Try.prog.types.size - 2, by kernel_rfl⟩
  have hu := Try.underlying102
  have hu3 : Try.prog.underlying 3 = some (.int .i64) := Try.underlying3
  have w1 : (Lit.int .i64 x.1).wf = true := by have := h.1; simp [Lit.wf, IntKind.min, IntKind.max, IntKind.bits, IntKind.signed]; omega
  have w2 : (Lit.int .i64 x.2).wf = true := by have := h.2; simp [Lit.wf, IntKind.min, IntKind.max, IntKind.bits, IntKind.signed]; omega
  unfold keyOf
  simp only [hu]
  rw [if_pos (by simp [hkt, Value.formed, hu, cellsTw]), hm]
  unfold Program.keyLits
  simp [hu, Value.cells, cellsTw, Program.keyLits, hu3, w1, w2, cellsI]
/-- A pair's classes that are being made. -/
structure TwSt (W : World) (n₀ mb mf tb : Nat) (tv : Value) (D : List (Int × Int)) : Prop where
  bm : Boxed W mb 100 (.map (some mf))
  bt : Boxed W tb 56 tv
  row : W.ownsRow n₀ 102 2 tv D.length (twCells D)
  mp : MapIs W mf (entT D)
  ok : ∀ x ∈ D, OkT x
  nd : D.Nodup
  le : D.length ≤ 2000000
  n0 : n₀ ≤ tb ∧ n₀ ≤ mf ∧ n₀ ≤ W.heap.size
theorem entT_keys {D : List (Int × Int)} (h : ∀ x ∈ D, OkT x) : ∀ p ∈ entT D, ∃ l, keyOf Try.prog 102 p.1 = some l := by
  rintro ⟨k, v⟩ hp
  obtain ⟨j, hj, rfl, rfl⟩ := entT_mem hp
  exact keyTw _ (h D[j] (List.getElem_mem hj))
/-- What finding a class leaves as it was. -/
def KeepT (tb mf : Nat) (tv : Value) (W W' : World) : Prop := W.heap.size ≤ W'.heap.size ∧ ∀ k o, W.heap[k]? = some o → k ≠ tb → k ≠ mf → some k ≠ tv.ownBlock → W'.heap[k]? = some o

set_option maxRecDepth 100000 in
set_option maxHeartbeats 8000000 in
theorem c_cls2 (x : Int × Int) (W : World) (n₀ mb mf tb : Nat) (tv : Value) (D : List (Int × Int)) (hx0 : OkT x) (hD : D.length < 2000000) (h : TwSt W n₀ mb mf tb tv D) :
    Calls Try.prog 66 #[twA x, .pointer (some ⟨mb, 0, none⟩), .pointer (some ⟨tb, 0, none⟩)] W fun e W' => ∃ tv', e = .returned (.int .i64 (fnd D x : Nat)) ∧ TwSt W' n₀ mb mf tb tv' (ins D x) ∧ KeepT tb mf tv W W' ∧ Below n₀ W W' := by
  obtain ⟨bm, bt, hrow, mp, hok, hnd, hle, hn0⟩ := h
  obtain ⟨lk, hkey⟩ := keyTw x hx0
  obtain ⟨i0, hi, hz0, hz1, hz2⟩ := info_parts infoTp
  obtain ⟨p, cap, rfl⟩ := own_slice hrow
  have hkeys := Lib.hid (entT_keys hok)
  have HOK := Lib.hid hok
  have HX0 := Lib.hid hx0
  have HND := Lib.hid hnd
  have hx1 : Ext W (W.alloc (.cells #[.int .i64 x.1, .int .i64 x.2] 102)) := (Ext.refl W).alloc _
  have hbk := World.alloc_heap_new W (.cells #[.int .i64 x.1, .int .i64 x.2] 102)
  clear hok hx0 hnd
  have bm1 := bm.ext hx1
  have bt1 := bt.ext hx1
  have hrow1 := ownsRow_ext hrow hx1
  have mp1 := mp.ext hx1
  have cm1 := bm1.cell
  have ct1 := bt1.cell
  have z0 := cell_blk hbk 0
  have z1 := cell_blk hbk 1
  simp only [List.getElem?_toArray, List.getElem?_cons_succ, List.getElem?_cons_zero] at z0 z1
  show Calls Try.prog 66 #[.agg #[.int .i64 x.1, .int .i64 x.2], .pointer (some ⟨mb, 0, none⟩), .pointer (some ⟨tb, 0, none⟩)] W _
  go_enter Try.func66, Try.ntmps66
  go_wp2_with (refine wpList_lookup_is (by rfl) (.tmp 8) (.tmp 9) (by rfl) keyedTw Try.underlying100 Try.zeroValue3 (by rfl) (key := twA x) (by rfl) mp1 hkeys.out hkey ?_; rintro v bb (⟨rfl, hmem⟩ | ⟨rfl, rfl, hne⟩))
  · obtain ⟨j, hj, e1, rfl⟩ := entT_mem hmem
    have e2 : D[j] = x := (twA_inj e1).symm
    have hf : fnd D x = j := fnd_is hj e2 HND.out
    have hins : ins D x = D := by unfold ins; rw [if_pos (by omega)]
    have HF := Lib.hid hf
    have HI := Lib.hid hins
    clear e1 e2 hmem hf hins
    go_wp2_with fail
    go_ret
    refine ⟨.slice p D.length cap, by rw [HF.out]; rfl, ?_, ⟨by simp, fun k o hk _ _ _ => hx1.blk hk⟩, Below.mono hx1 hn0.2.2⟩
    rw [HI.out]
    exact ⟨bm1, bt1, hrow1, mp1, HOK.out, HND.out, hle, hn0.1, hn0.2.1, by simp; omega⟩
  · have HN := Lib.hid hne
    clear hne
    have hf : fnd D x = D.length := fnd_none fun y hy e => by
      obtain ⟨j, hj, rfl⟩ := List.mem_iff_getElem.1 hy
      exact HN.out _ (entT_of hj) (by rw [e])
    have hins : ins D x = D ++ [x] := by unfold ins; rw [if_neg (by omega)]
    have HF := Lib.hid hf
    have HI := Lib.hid hins
    clear hf hins
    obtain ⟨W2, hrun, mp2, hg2, hs2⟩ := mp1.put keyedTw Try.underlying100 hkeys.out hkey HN.out (v := .int .i64 ((D.length : Nat) : Int))
    rw [← entT_snoc] at mp2
    go_wp2_with fail
    rw [hrun]
    clear hrun
    have hW2 : W2.heap.size = W.heap.size + 1 := by rw [hs2]; simp
    have nm : ∀ k c t f, (W.alloc (.cells #[.int .i64 x.1, .int .i64 x.2] 102)).heap[k]? = some (Obj.cells c t f) → some k ≠ some mf := fun k c t f hk e => by
      obtain ⟨es, ck, hm, _⟩ := mp1
      rw [Option.some.inj e, hm] at hk
      cases hk
    have bm2 := bm1.kept hg2 (nm _ _ _ _ bm1)
    have bt2 := bt1.kept hg2 (nm _ _ _ _ bt1)
    have hbk2 := (hg2.block W.heap.size (by simp) (nm _ _ _ _ hbk)).trans hbk
    have hrow2 := hrow1.kept hg2 (by
      rcases hrow1.2 with ⟨h1, _⟩ | ⟨g, c', cur, h1, _, hgb, _⟩
      · left; rw [h1]; rfl
      · right
        rw [h1]
        exact nm _ _ _ _ hgb)
    have HS2 := Lib.hid hs2
    have y0 := bt2.cell
    have y1 := cell_blk hbk2 0
    have y2 := cell_blk hbk2 1
    simp only [List.getElem?_toArray, List.getElem?_cons_succ, List.getElem?_cons_zero] at y1 y2
    have hx3 := (Ext.refl W2).alloc (.cells #[.int .i64 x.1, .int .i64 x.2] 102)
    have hrow3 := ownsRow_ext hrow2 hx3
    have bm3 := bm2.ext hx3
    have bt3 := bt2.ext hx3
    have mp3 := mp2.ext hx3
    have hnew := World.alloc_heap_new W2 (.cells #[.int .i64 x.1, .int .i64 x.2] 102)
    have hn2 : n₀ ≤ W2.heap.size := by omega
    have hszA := hx3.sz
    have HW2 := Lib.hid hW2
    clear hs2 hW2
    go_wp2_with (at_builtin; refine wpList_append_own _ rfl (.tmp 20) (.tmp 22) 56 rfl n₀ 102 i0 (.agg #[.int .i64 0, .int .i64 0]) 2 16 Try.underlying56 hi hz0 hz1 hz2 rfl (by decide) _ D.length (twCells D) rfl hrow3 ⟨W2.heap.size, 0, none⟩ 1 1 [.int .i64 x.1, .int .i64 x.2] rfl rfl (World.news_of_block hnew) (by intro u hu; simp at hu; rcases hu with rfl | rfl <;> rfl) (by unfold maxLen; omega) (by omega) (by simp; omega) ?_; intro v' W4 hown' hgrow _; have bt4 := bt3.kept hgrow (bt3.not_row (by decide) hrow3); have y4 := bt4.cell; have fz := frz_blk bt4 0; have hv' := own_slice hown'; obtain ⟨pv, cv, hve⟩ := hv'; subst hve)
    go_ret
    have hgs := grownBy_setAt W4 ⟨tb, 0, none⟩ (.slice pv (D.length + 1) cv)
    have bm4 := bm3.kept hgrow (bm3.not_row (by decide) hrow3)
    have nmt : some mb ≠ some tb := by
      intro e
      have h1 : W4.heap[mb]? = some (Obj.cells _ _ _) := bm4
      have h2 : W4.heap[tb]? = some (Obj.cells _ _ _) := bt4
      rw [Option.some.inj e, h2] at h1
      simp at h1
    have nmf : some mf ≠ (Value.slice p D.length cap).ownBlock := by
      intro e2
      obtain ⟨es, ck, hm, _⟩ := mp3
      rcases hrow3.2 with ⟨h3, _⟩ | ⟨g, c', cur, h3, _, hgb, _⟩
      · rw [h3] at e2; simp [Value.ownBlock] at e2
      · rw [h3] at e2
        obtain rfl : mf = g := by simpa [Value.ownBlock] using e2
        rw [hm] at hgb
        cases hgb
    have nft : some mf ≠ some tb := fun e => nm _ _ _ _ bt1 e.symm
    have mp4 := (mp3.kept hgrow nmf).kept hgs nft
    have bts := set_blk bt4 0 (.slice pv (D.length + 1) cv)
    simp only [List.setIfInBounds_toArray, List.set_cons_zero] at bts
    have hrow6 := hown'.kept hgs (.inr (row_ne hown' bt4 (by decide)).symm)
    have h1 := HW2.out
    have h2 := hgrow.size
    have h3 := hgs.size
    have h4 : (W2.alloc (.cells #[.int .i64 x.1, .int .i64 x.2] 102)).heap.size = W2.heap.size + 1 := by simp
    refine ⟨.slice pv (D.length + 1) cv, by rw [HF.out]; rfl, ?_, ⟨by omega, fun k o hk kt km kc => ?_⟩, ?_⟩
    · rw [HI.out]
      refine ⟨bm4.kept hgs nmt, bts, ?_, mp4, ?_, by rw [← HI.out]; exact ins_nodup HND.out, by simp; omega, hn0.1, hn0.2.1, by omega⟩
      · rw [twCells_append, List.length_append]
        exact hrow6
      · intro y hy
        rcases List.mem_append.1 hy with hy | hy
        · exact HOK.out y hy
        · obtain rfl : y = x := by simpa using hy
          exact HX0.out
    · have k1 := hx1.blk hk
      have k2 := (hg2.block k (blk_lt k1) (by simpa using km)).trans k1
      have k3 := hx3.blk k2
      have k4 := (hgrow.block k (blk_lt k3) kc).trans k3
      exact (hgs.block k (blk_lt k4) (by simpa using kt)).trans k4
    · have b1 : Below n₀ W (W.alloc (.cells #[.int .i64 x.1, .int .i64 x.2] 102)) := Below.mono hx1 hn0.2.2
      have b2 := b1.grown hg2 (by simp; omega) (fun k e => by cases e; exact hn0.2.1)
      have b3 := b2.trans (Below.mono hx3 hn2)
      have b4 := b3.grown hgrow (by omega) (fun k e => (hrow3.lt k e).1)
      exact b4.setCell (p := ⟨tb, 0, none⟩) hn0.1 _
end
end Go.Proofs.Ytbbemipidkhmfaa
