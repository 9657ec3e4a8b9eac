/-
  Each, walked through: the runes from a place on are those of the text.
-/
import Derived.RangeFuncNested
import Derived.RangeFuncBound
import Derived.RangeFuncCalls
import Derived.RangeFuncLeaves
import Derived.Shelf.Abstract
import Derived.Shelf.RegionOpen
import Derived.WalkKit
import Derived.OwnWalkIn
import Derived.TacticsInMore
import Derived.BigQuiet
import Derived.Laws.EntriesVeiled
import Derived.Test.YtohpekbooapcjaaDoorGoesA
namespace Go.Rp
theorem run_equal_func_nil {P : Program} {t : TypeId} {a b : Array TypeId} {c : Bool} (h : P.underlying t = some (.func a b c)) (d : Nat) (f : Fn) (x y : Array Value) (w : World) : (Op.equalIn (d + 1) t (.func f x y) .nilFunc).run P w = .ok false w := by
  simp [Op.equalIn, run_underlying h]
theorem run_eql_func_nil {P : Program} {t : TypeId} {a b : Array TypeId} {c : Bool} (h : P.underlying t = some (.func a b c)) (f : Fn) (x y : Array Value) (w : World) : (binOp .eql t (.func f x y) .nilFunc).run P w = .ok (.bool false) w := by
  have := run_equal_func_nil h 9999 f x y w
  simp only [binOp]
  simp [Op.equal, Op.maxDepth, this]
end Go.Rp
namespace Go.Proofs.YtohpekbooapcjaaDoor
open Go.RowKit Go.Rp Go.Shelf

attribute [local go_sem] Oper.semAt_some
theorem seq2_nil (f : Fn) (x y : Array Value) (w : World) : (binOp .eql 68 (.func f x y) .nilFunc).run Tryd.prog w = .ok (.bool false) w := run_eql_func_nil Tryd.underlying68 _ _ _ _
attribute [local go_sem] seq2_nil

theorem _root_.Go.Boxed.ext {W W' : World} {B : Nat} {t : TypeId} {v : Value} (h : Boxed W B t v) (hx : Ext W W') : Boxed W' B t v := Ext.blk hx h
/-- Where a place lies among the runes: the first that begins there. -/
theorem stands_first (s : ByteArray) (at_ : Int) : ∃ first, first ≤ (marks s.size s.data.toList 0).length ∧ StandsAt (marks s.size s.data.toList 0) first at_ ∧
    (∀ k (_ : k < (marks s.size s.data.toList 0).length), k < first → ¬ ((marks s.size s.data.toList 0)[k].2.1 : Int) = at_) ∧ (∀ _ : first < (marks s.size s.data.toList 0).length, ((marks s.size s.data.toList 0)[first].2.1 : Int) = at_) := by
  generalize marks s.size s.data.toList 0 = M
  by_cases h : ∃ k, ∃ h : k < M.length, (M[k].2.1 : Int) = at_
  · obtain ⟨k, hk⟩ := h
    induction k using Nat.strongRecOn with
    | ind k ih =>
      by_cases h2 : ∃ m, m < k ∧ ∃ h : m < M.length, (M[m].2.1 : Int) = at_
      · obtain ⟨m, hm, hh⟩ := h2
        exact ih m hm hh
      · obtain ⟨hk1, hk2⟩ := hk
        refine ⟨k, by omega, ⟨fun _ => hk2.symm, fun e => by omega⟩, fun m hm hmk e => h2 ⟨m, hmk, hm, e⟩, fun _ => hk2⟩
  · refine ⟨M.length, Nat.le_refl _, ⟨fun hh => by omega, fun _ => ?_⟩, fun k hk _ e => h ⟨k, hk, e⟩, fun hh => by omega⟩
    unfold runeAt
    have : M.find? (fun m => ((m.2.1 : Nat) : Int) == at_) = none := by
      rw [List.find?_eq_none]
      intro m hm e
      obtain ⟨k, hk, rfl⟩ := List.getElem_of_mem hm
      exact h ⟨k, hk, by simpa using e⟩
    rw [this]

theorem snoc_prefix {α : Type} (l pre : List α) (x : α) (h : pre <+: l) (hl : pre.length < l.length) : pre ++ [x] <+: l ↔ l[pre.length] = x := by
  obtain ⟨t, rfl⟩ := h
  cases t with
  | nil => simp at hl
  | cons y t => simp [eq_comm]
theorem items_get (M : List (Nat × Nat × Nat)) (first k : Nat) (h : first + k < M.length) (h2 : k < (itemsOf M first).length) : (itemsOf M first)[k] = (M[first + k].2.1, M[first + k].1) := by simp [itemsOf]

set_option maxRecDepth 100000 in
set_option maxHeartbeats 4000000 in
theorem c_each (p : Option Addr) (o : Option T) (at_ stop : Int) (w : World) (h : IsRope w (.pointer p) o) (hT : Lib.Utf8Tabs 0 1 w) (hs : (txt o).size ≤ 1048576) :
    Calls Tryd.prog 19 #[.pointer p, .string (txt o), .int .i64 at_, .int .i64 stop] w fun e w' => e = .returned (.bool true) ∧ Ext w w' := by
  have hall : ∀ f, Fence.wide.fn f := fun _ => trivial
  have hro : Fence.wide.round = none := rfl
  obtain ⟨first, hf1, hf2, hf3, hf4⟩ := stands_first (txt o) at_
  have hmark := runeCells_get (marks (txt o).size (txt o).data.toList 0)
  have hml := marks_len (txt o).size (txt o).data.toList 0
  rw [len_eq] at hml
  have hS := c_SRunes (txt o)
  have hE := each_stops p o at_ first
  generalize hMe : marks (txt o).size (txt o).data.toList 0 = M at *
  have HS := Lib.hid hS
  have HE := Lib.hid hE
  have HM := Lib.hid hmark
  have HF3 := Lib.hid hf3
  have HF4 := Lib.hid hf4
  clear hS hE hmark hf3 hf4 hMe
  refine (callsIn_wide (n := 9)).1 ?_
  refine callsIn_of_wp_marks Tryd.func19 rfl (hall _) ?_ rfl
  simp only [Tryd.ntmps19, List.size_toArray, List.length_cons, List.length_nil, Nat.reduceAdd, Nat.reduceSub, Array.replicate_succ, Array.replicate_zero, List.push_toArray, List.append_toArray, List.nil_append, List.cons_append]
  refine wpIn_wide.2 ?_
  go_wp2_with fail
  refine (c_Each p at_ _).mono ?_
  rintro e w1 ⟨rfl, rfl⟩
  go_wp2_with fail
  obtain ⟨wE, hwE⟩ : ∃ wE, wE = ((((((w.alloc (.cells #[.int .i64 at_] 3)).alloc (.cells #[.int .i64 stop] 3)).alloc (.cells #[.bool false] 4)).alloc (.cells #[.pointer p] 25)).alloc (.cells #[.int .i64 at_] 3)).alloc (.cells #[.func (.func 57) #[] #[.pointer (some ⟨w.heap.size + 1 + 1 + 1 + 1, 0, none⟩), .pointer (some ⟨w.heap.size + 1 + 1 + 1, 0, none⟩)]] 68)) := ⟨_, rfl⟩
  have bAt : Boxed wE w.heap.size 3 (.int .i64 at_) := by rw [hwE]; exact (((((Boxed.new _ _ _).alloc _).alloc _).alloc _).alloc _).alloc _
  have bStop : Boxed wE (w.heap.size + 1) 3 (.int .i64 stop) := by rw [hwE]; have := Boxed.new (w.alloc (.cells #[.int .i64 at_] 3)) 3 (.int .i64 stop); rw [World.size_alloc] at this; exact (((this.alloc _).alloc _).alloc _).alloc _
  have bRes : Boxed wE (w.heap.size + 1 + 1) 4 (.bool false) := by rw [hwE]; have := Boxed.new ((w.alloc (.cells #[.int .i64 at_] 3)).alloc (.cells #[.int .i64 stop] 3)) 4 (.bool false); simp only [World.size_alloc] at this; exact ((this.alloc _).alloc _).alloc _
  have bR : Boxed wE (w.heap.size + 1 + 1 + 1) 25 (.pointer p) := by rw [hwE]; have := Boxed.new (((w.alloc (.cells #[.int .i64 at_] 3)).alloc (.cells #[.int .i64 stop] 3)).alloc (.cells #[.bool false] 4)) 25 (.pointer p); simp only [World.size_alloc] at this; exact (this.alloc _).alloc _
  have bA2 : Boxed wE (w.heap.size + 1 + 1 + 1 + 1) 3 (.int .i64 at_) := by rw [hwE]; have := Boxed.new ((((w.alloc (.cells #[.int .i64 at_] 3)).alloc (.cells #[.int .i64 stop] 3)).alloc (.cells #[.bool false] 4)).alloc (.cells #[.pointer p] 25)) 3 (.int .i64 at_); simp only [World.size_alloc] at this; exact this.alloc _
  have bSeq : Boxed wE (w.heap.size + 1 + 1 + 1 + 1 + 1) 68 (.func (.func 57) #[] #[.pointer (some ⟨w.heap.size + 1 + 1 + 1 + 1, 0, none⟩), .pointer (some ⟨w.heap.size + 1 + 1 + 1, 0, none⟩)]) := by rw [hwE]; have := Boxed.new (((((w.alloc (.cells #[.int .i64 at_] 3)).alloc (.cells #[.int .i64 stop] 3)).alloc (.cells #[.bool false] 4)).alloc (.cells #[.pointer p] 25)).alloc (.cells #[.int .i64 at_] 3)) 68 (.func (.func 57) #[] #[.pointer (some ⟨w.heap.size + 1 + 1 + 1 + 1, 0, none⟩), .pointer (some ⟨w.heap.size + 1 + 1 + 1, 0, none⟩)]); simp only [World.size_alloc] at this; exact this
  have hszE : wE.heap.size = w.heap.size + 6 := by rw [hwE]; simp
  have hxE : Ext w wE := by rw [hwE]; exact ((((((Ext.refl w).alloc _).alloc _).alloc _).alloc _).alloc _).alloc _
  rw [← hwE]
  clear hwE
  refine (HS.out _ (by omega)).mono ?_
  rintro e w1 ⟨x, rfl, hown, hx1⟩
  have hsl : ∃ a cap, x = .slice a M.length cap := by
    rcases hown.2 with ⟨h1, h2⟩ | ⟨g, cap, _, h1, _⟩
    · exact ⟨none, 0, by rw [h1, h2]⟩
    · exact ⟨_, cap, h1⟩
  obtain ⟨ad, cap, rfl⟩ := hsl
  have hrow := ownsRow_ext hown (Below.alloc (Below.refl w1.heap.size w1) (Nat.le_refl _) (.cells #[.slice ad M.length cap] 28))
  have bX := Boxed.new w1 28 (.slice ad M.length cap)
  have hxX : Ext wE (w1.alloc (.cells #[.slice ad M.length cap] 28)) := hx1.alloc _
  go_wp2_with fail
  obtain ⟨wX, hwX⟩ : ∃ wX, wX = w1.alloc (.cells #[.slice ad M.length cap] 28) := ⟨_, rfl⟩
  have hszX : wX.heap.size = w1.heap.size + 1 := by rw [hwX]; simp
  have bI : Boxed (wX.alloc (.cells #[.int .i64 0] 3)) (w1.heap.size + 1) 3 (.int .i64 ((0 : Nat) : Int)) := by have := Boxed.new wX 3 (.int .i64 0); rw [hszX] at this; exact this
  rw [← hwX] at hrow bX hxX ⊢
  clear hwX
  rename_i K HK
  have cAt := fun wr (hx : Ext wX wr) => ((bAt.ext hxX).ext hx).cell
  have cX := fun wr (hx : Ext wX wr) => (bX.ext hx).cell
  have hg : 0 < M.length → ∃ g, ad = some ⟨g, 0, none⟩ := fun h0 => by
    rcases hown.2 with ⟨_, h2⟩ | ⟨g, cap', _, h1, _⟩
    · omega
    · exact ⟨g, by injection h1⟩
  have HG := Lib.hid hg
  have CAT := Lib.hid cAt
  have CX := Lib.hid cX
  clear hg cAt cX hown
  have tail : ∀ (u23 u24 u25 u26 u27 u28 u29 u30 u31 u32 u33 u34 u35 u36 u37 : Value) (wr : World), Boxed wr (w1.heap.size + 1) 3 (.int .i64 (first : Nat)) → Ext wX wr → K { tmps := #[Value.pointer p, .string (txt o), .int .i64 at_, .int .i64 stop, undef, undef, .pointer (some ⟨w.heap.size, 0, none⟩), .pointer (some ⟨w.heap.size + 1, 0, none⟩), .pointer (some ⟨w.heap.size + 1 + 1, 0, none⟩), .pointer (some ⟨w.heap.size + 1 + 1 + 1 + 1 + 1, 0, none⟩), .pointer (some ⟨w1.heap.size, 0, none⟩), .pointer (some ⟨w1.heap.size + 1, 0, none⟩), undef, undef, undef, undef, .pointer p, .int .i64 at_, Value.func (.func 57) #[] #[.pointer (some ⟨w.heap.size + 1 + 1 + 1 + 1, 0, none⟩), .pointer (some ⟨w.heap.size + 1 + 1 + 1, 0, none⟩)], Value.func (.func 57) #[] #[.pointer (some ⟨w.heap.size + 1 + 1 + 1 + 1, 0, none⟩), .pointer (some ⟨w.heap.size + 1 + 1 + 1, 0, none⟩)], .bool false, .string (txt o), .slice ad M.length cap, u23, u24, u25, u26, u27, u28, u29, u30, u31, u32, u33, u34, u35, u36, u37, undef, undef, undef, undef, undef, undef, undef, undef, undef, undef, undef, undef, undef, undef, undef, undef, undef, undef, undef, undef, undef, undef, undef, undef, undef, undef, undef, undef, undef, undef, undef, undef, undef, undef, undef, undef, undef, undef, undef, undef, undef, undef, undef], defers := [] } wr := by
    intro u23 u24 u25 u26 u27 u28 u29 u30 u31 u32 u33 u34 u35 u36 u37 wr bi hxr
    refine HK _ _ ?_
    have cI := bi.cell
    have csq := (((bSeq.ext hxX).ext hxr).alloc (.cells #[.int .i64 (first : Nat)] 3)).cell
    go_wp2_with fail
    have bF := Boxed.new wr 3 (.int .i64 (first : Nat))
    have hxL : Ext wX (wr.alloc (.cells #[.int .i64 (first : Nat)] 3)) := hxr.alloc _
    have bi0 := bi.alloc (.cells #[.int .i64 (first : Nat)] 3)
    have hlt0 := bi.lt
    have hszL : (wr.alloc (.cells #[.int .i64 (first : Nat)] 3)).heap.size = wr.heap.size + 1 := by simp
    obtain ⟨WL, hWL⟩ : ∃ WL, WL = wr.alloc (.cells #[.int .i64 (first : Nat)] 3) := ⟨_, rfl⟩
    rw [← hWL] at bF hxL bi0 hszL csq ⊢
    clear hWL
    have hxEL : Ext wE WL := hxX.trans hxL
    refine (wpIn_wide (n := 9)).1 ?_
    refine wpIn_rangeFunc_ownH hro (by decide) (gf := 57) (lb := #[.pointer (some ⟨w.heap.size + 1 + 1 + 1 + 1, 0, none⟩), .pointer (some ⟨w.heap.size + 1 + 1 + 1, 0, none⟩)]) rfl (hall _) (enters_of Tryd.func57 (by kernel_rfl) rfl)
      (HE.out (9 - 1) (w.heap.size + 1 + 1 + 1 + 1) (w.heap.size + 1 + 1 + 1) wE WL (h.mono hxE) (tabs_mono hxE hT) hs hxEL hf1 hf2 bA2 bR) belowK_t (belowK_b hxEL.sz) (Below.refl _ _) (fun _ => rfl)
      (fun pre W => ((Boxed W (w1.heap.size + 1) 3 (.int .i64 ((first + pre.length : Nat))) ∧ Boxed W wr.heap.size 3 (.int .i64 (first : Nat))) ∧ pre <+: itemsOf M first) ∧ Below (w1.heap.size + 1) WL W)
      (fun c pre _ => c = .ret ∧ ¬ pre <+: itemsOf M first)
      (OwnFrom.and (OwnFrom.and (OwnFrom.and (Own.from (boxed_own (w1.heap.size + 1) 3 (fun pre : List (Nat × Nat) => Value.int .i64 ((first + pre.length : Nat)))) _) (Own.from (boxed_own wr.heap.size 3 (fun _ : List (Nat × Nat) => Value.int .i64 (first : Nat))) _)) (ownFrom_pure _ (fun pre : List (Nat × Nat) => pre <+: itemsOf M first))) (ownFrom_below (by omega) (by omega)))
      (fun _ _ _ _ _ hs _ _ => hs)
      ⟨⟨⟨bi0, bF⟩, List.nil_prefix⟩, Below.refl _ _⟩
      (fun x a' _ => a' = { tmps := #[Value.pointer p, .string (txt o), .int .i64 at_, .int .i64 stop, undef, undef, .pointer (some ⟨w.heap.size, 0, none⟩), .pointer (some ⟨w.heap.size + 1, 0, none⟩), .pointer (some ⟨w.heap.size + 1 + 1, 0, none⟩), .pointer (some ⟨w.heap.size + 1 + 1 + 1 + 1 + 1, 0, none⟩), .pointer (some ⟨w1.heap.size, 0, none⟩), .pointer (some ⟨w1.heap.size + 1, 0, none⟩), .pointer (some ⟨wr.heap.size, 0, none⟩), .int .i64 (x.1 : Nat), .int .i32 (x.2 : Nat), undef, .pointer p, .int .i64 at_, Value.func (.func 57) #[] #[.pointer (some ⟨w.heap.size + 1 + 1 + 1 + 1, 0, none⟩), .pointer (some ⟨w.heap.size + 1 + 1 + 1, 0, none⟩)], Value.func (.func 57) #[] #[.pointer (some ⟨w.heap.size + 1 + 1 + 1 + 1, 0, none⟩), .pointer (some ⟨w.heap.size + 1 + 1 + 1, 0, none⟩)], .bool false, .string (txt o), .slice ad M.length cap, u23, u24, u25, u26, u27, u28, u29, u30, u31, u32, u33, u34, u35, u36, u37, .int .i64 (first : Nat), Value.func (.func 57) #[] #[.pointer (some ⟨w.heap.size + 1 + 1 + 1 + 1, 0, none⟩), .pointer (some ⟨w.heap.size + 1 + 1 + 1, 0, none⟩)], .int .i64 (x.1 : Nat), .int .i32 (x.2 : Nat), undef, undef, undef, undef, undef, undef, undef, undef, undef, undef, undef, undef, undef, undef, undef, undef, undef, undef, undef, undef, undef, undef, undef, undef, undef, undef, undef, undef, undef, undef, undef, undef, undef, undef, undef, undef, undef, undef, undef], defers := [] })
      (fun _ _ _ _ _ _ hs _ _ => hs)
      ?assign ?body ?done ?stop
    case assign =>
      rintro l pre x W K hi hK
      gi_wp2
      exact hK _ _ (KeepsFrom.refl _ _) (Below.refl _ _) hi rfl
    case stop =>
      rintro D c pre W _ h1 ⟨_, h2⟩ _
      exact absurd h1 h2
    case done =>
      rintro D ys W hD rfl ⟨⟨⟨bi1, bf1⟩, _⟩, hB1⟩ hK
      have hlen : first + (itemsOf M first).length = M.length := by simp [itemsOf]; omega
      rw [hlen] at bi1
      have hxW : Ext wX W := Below.trans hxL (by rw [← hszX] at hB1; exact hB1)
      have hxEW : Ext wE W := hxX.trans hxW
      have cI1 := bi1.cell
      have cx1 := CX.out W hxW
      have cr1 := (bRes.ext hxEW).cell
      have fr1 := (bRes.ext hxEW).frozen
      have bT := (bRes.ext hxEW).set (.bool true)
      have hKT : (W.setCell ⟨w.heap.size + 1 + 1, 0, none⟩ (.bool true)).heap[D]? = some (.deferred (some [])) := (KeepsOthers.setCell W ⟨w.heap.size + 1 + 1, 0, none⟩ (.bool true)).same D _ hK rfl
      have hlr := bRes.lt
      clear hlen
      go_wp2_with fail
      have hxF : Ext w ((W.setCell ⟨w.heap.size + 1 + 1, 0, none⟩ (.bool true)).putObj D (.deferred none)) :=
        Below.trans (Below.setCell (hxE.trans hxEW) (p := ⟨w.heap.size + 1 + 1, 0, none⟩) (by simp; omega) _) (belowK_b (w := w) (Nat.le_refl _) _ D _ _ (by have := hxEL.sz; omega) hKT rfl rfl)
      have bTD : Boxed ((W.setCell ⟨w.heap.size + 1 + 1, 0, none⟩ (.bool true)).putObj D (.deferred none)) (w.heap.size + 1 + 1) 4 (.bool true) := bT.kept (grownBy_putObj' _ D (.deferred none)) (by have := hxEL.sz; simp; omega)
      have cTD := bTD.cell
      refine ⟨by simp, .inl ⟨_, _, rfl, run_takeDeferred hKT, ?_⟩⟩
      refine ⟨.bool true, ?_, rfl, hxF⟩
      simp [results, cTD, go_sem]
    case body =>
      rintro l pre ⟨x1, x2⟩ a' W hl ⟨r, hr⟩ ⟨⟨⟨bi1, bf1⟩, hpre⟩, hB1⟩ rfl hlt
      have hlen : first + (itemsOf M first).length = M.length := by simp [itemsOf]; omega
      have hkM : first + pre.length < M.length := by omega
      have hxW : Ext wX W := Below.trans hxL (by rw [← hszX] at hB1; exact hB1)
      have hxEW : Ext wE W := hxX.trans hxW
      have hsn := snoc_prefix (itemsOf M first) pre (x1, x2) hpre hlt
      rw [items_get M first pre.length hkM hlt] at hsn
      obtain ⟨k, hk⟩ : ∃ k, first + pre.length = k := ⟨_, rfl⟩
      simp only [hk] at hsn hkM bi1
      obtain ⟨g, rfl⟩ := HG.out (by omega)
      have hrr := ownsRow_ext hrow hxW
      have d0 := (hrr.cellAt (k * 3) (by omega)).trans (HM.out _ hkM).1
      have d1 := (hrr.cellAt (k * 3 + 1) (by omega)).trans (HM.out _ hkM).2.1
      obtain ⟨m1, hm1⟩ : ∃ m1, M[k].1 = m1 := ⟨_, rfl⟩
      obtain ⟨m2, hm2⟩ : ∃ m2, M[k].2.1 = m2 := ⟨_, rfl⟩
      rw [hm1] at d0 hsn
      rw [hm2] at d1 hsn
      have HK := Lib.hid hk
      have HSN := Lib.hid hsn
      have HPRE := Lib.hid hpre
      clear hk hsn hm1 hm2 hpre hlen
      have cI1 := bi1.cell
      have cF1 := bf1.cell
      have fI1 := bi1.frozen
      have cx1 := CX.out W hxW
      have cSt := (bStop.ext hxEW).cell
      have cSq := (bSeq.ext hxEW).cell
      have cRs := (bRes.ext hxEW).cell
      have fRs := (bRes.ext hxEW).frozen
      have hkN : ¬ ((M.length : Nat) : Int) ≤ (k : Nat) := by omega
      by_cases e1 : x1 = m2
      · subst e1
        by_cases e2 : x2 = m1
        · subst e2
          have hpre2 : pre ++ [(x1, x2)] <+: itemsOf M first := HSN.out.2 rfl
          have HP2 := Lib.hid hpre2
          clear hpre2
          have hkz : (k : Nat) ≤ 1048576 ∧ first ≤ 1048576 := by omega
          have HKZ : Hid (((first : Nat) : Int) + ((pre ++ [(x1, x2)]).length : Nat) = (k : Nat) + 1) := by have := HK.out; unfold Hid; simp; omega
          by_cases hst : ((k : Nat) : Int) - (first : Nat) = stop
          · gi_wp2
            refine wpIn_rangeFunc_ownN (l₀ := l) (r₀ := r) rfl hr (by decide) (gf := 57) (lb := #[.pointer (some ⟨w.heap.size + 1 + 1 + 1 + 1, 0, none⟩), .pointer (some ⟨w.heap.size + 1 + 1 + 1, 0, none⟩)]) rfl (hall 57) (enters_of Tryd.func57 (by kernel_rfl) rfl)
              ((HE.out (7 - 1) (w.heap.size + 1 + 1 + 1 + 1) (w.heap.size + 1 + 1 + 1) wE W (h.mono hxE) (tabs_mono hxE hT) hs hxEW hf1 hf2 bA2 bR).inRound l) belowK_t (belowK_b hxEW.sz) (Below.refl _ _) (fun _ => rfl)
              (fun pre' W' => ((Boxed W' (w1.heap.size + 1) 3 (.int .i64 (k : Nat)) ∧ Boxed W' wr.heap.size 3 (.int .i64 (first : Nat))) ∧ pre' = []) ∧ (Below (w1.heap.size + 1) W W' ∧ KeepsFrom WL.heap.size W W'))
              (fun c pre' W' => (c = .exit 4 ∧ ((Boxed W' (w1.heap.size + 1) 3 (.int .i64 (k : Nat)) ∧ Boxed W' wr.heap.size 3 (.int .i64 (first : Nat))) ∧ (Below (w1.heap.size + 1) W W' ∧ KeepsFrom WL.heap.size W W'))) ∨ (c = .ret ∧ ¬ pre' <+: itemsOf M first))
              (OwnFrom.and (OwnFrom.and (OwnFrom.and (Own.from (boxed_own (w1.heap.size + 1) 3 (fun _ : List (Nat × Nat) => Value.int .i64 (k : Nat))) _) (Own.from (boxed_own wr.heap.size 3 (fun _ : List (Nat × Nat) => Value.int .i64 (first : Nat))) _)) (ownFrom_pure _ (fun pre : List (Nat × Nat) => pre = []))) (OwnFrom.and (ownFrom_below (by have := bi1.lt; omega) (by have := bi1.lt; omega)) (ownFrom_keepsFrom (Nat.le_refl _))))
              (fun c s X Y row hh hg hr => hh.imp (fun hh => ⟨hh.1, OwnFrom.and (OwnFrom.and (Own.from (boxed_own (w1.heap.size + 1) 3 (fun _ : List (Nat × Nat) => Value.int .i64 (k : Nat))) _) (Own.from (boxed_own wr.heap.size 3 (fun _ : List (Nat × Nat) => Value.int .i64 (first : Nat))) _)) (OwnFrom.and (ownFrom_below (by have := bi1.lt; omega) (by have := bi1.lt; omega)) (ownFrom_keepsFrom (Nat.le_refl _))) s X Y row hh.2 hg hr⟩) id)
              ⟨⟨⟨bi1, bf1⟩, rfl⟩, Below.refl _ _, KeepsFrom.refl _ _⟩
              (fun y a' _ => a' = { tmps := #[Value.pointer p, .string (txt o), .int .i64 at_, .int .i64 stop, undef, undef, .pointer (some ⟨w.heap.size, 0, none⟩), .pointer (some ⟨w.heap.size + 1, 0, none⟩), .pointer (some ⟨w.heap.size + 1 + 1, 0, none⟩), .pointer (some ⟨w.heap.size + 1 + 1 + 1 + 1 + 1, 0, none⟩), .pointer (some ⟨w1.heap.size, 0, none⟩), .pointer (some ⟨w1.heap.size + 1, 0, none⟩), .pointer (some ⟨wr.heap.size, 0, none⟩), .int .i64 (x1 : Nat), .int .i32 (x2 : Nat), .int .i64 (y.1 : Nat), .pointer p, .int .i64 at_, Value.func (.func 57) #[] #[.pointer (some ⟨w.heap.size + 1 + 1 + 1 + 1, 0, none⟩), .pointer (some ⟨w.heap.size + 1 + 1 + 1, 0, none⟩)], Value.func (.func 57) #[] #[.pointer (some ⟨w.heap.size + 1 + 1 + 1 + 1, 0, none⟩), .pointer (some ⟨w.heap.size + 1 + 1 + 1, 0, none⟩)], .bool false, .string (txt o), .slice (some ⟨g, 0, none⟩) M.length cap, u23, u24, u25, u26, u27, u28, u29, u30, u31, u32, u33, u34, u35, u36, u37, .int .i64 (first : Nat), Value.func (.func 57) #[] #[.pointer (some ⟨w.heap.size + 1 + 1 + 1 + 1, 0, none⟩), .pointer (some ⟨w.heap.size + 1 + 1 + 1, 0, none⟩)], .int .i64 (x1 : Nat), .int .i32 (x2 : Nat), .int .i64 (k : Nat), .slice (some ⟨g, 0, none⟩) M.length cap, .int .i64 (M.length : Nat), .bool false, .bool false, .int .i64 (x1 : Nat), .slice (some ⟨g, 0, none⟩) M.length cap, .int .i64 (k : Nat), .pointer (some ⟨g, k * 3, none⟩), .pointer (some ⟨g, k * 3 + 1, none⟩), .int .i64 (x1 : Nat), .bool false, .bool false, .bool false, .int .i32 (x2 : Nat), .slice (some ⟨g, 0, none⟩) M.length cap, .int .i64 (k : Nat), .pointer (some ⟨g, k * 3, none⟩), .pointer (some ⟨g, k * 3, none⟩), .int .i32 (x2 : Nat), .bool false, .bool false, .int .i64 (k : Nat), .int .i64 (first : Nat), .int .i64 stop, .int .i64 stop, .bool true, Value.func (.func 57) #[] #[.pointer (some ⟨w.heap.size + 1 + 1 + 1 + 1, 0, none⟩), .pointer (some ⟨w.heap.size + 1 + 1 + 1, 0, none⟩)], .int .i64 (y.1 : Nat), .int .i32 (y.2 : Nat), undef, undef, undef, undef, undef, undef, undef, undef, undef], defers := [] })
              (fun _ _ _ _ _ _ hs _ _ => hs)
              ?assign2 ?body2 ?done2 ?stop2
            case assign2 =>
              rintro l2 pre' y W' K2 hi hK2
              gi_wp2
              exact hK2 _ _ (KeepsFrom.refl _ _) (Below.refl _ _) hi rfl
            case body2 =>
              rintro l2 pre' ⟨y1, y2⟩ a'' W' hl2 _ ⟨⟨⟨bi2, bf2⟩, rfl⟩, hB2, hK2⟩ rfl hlt2
              have hxW2 : Ext wX W' := Below.trans hxW (by rw [← hszX] at hB2; exact hB2)
              have cA2 := CAT.out W' hxW2
              have cR2 := (bRes.ext (hxX.trans hxW2)).cell
              have fR2 := (bRes.ext (hxX.trans hxW2)).frozen
              by_cases e3 : ((y1 : Nat) : Int) = at_
              · have hb3 : (((y1 : Nat) : Int) != at_) = false := by rw [e3]; simp
                clear e3
                gi_wp2
                exact ⟨KeepsFrom.refl _ _, .inl ⟨rfl, ⟨bi2, bf2⟩, hB2, hK2⟩⟩
              · have hb3 : (((y1 : Nat) : Int) != at_) = true := bne_iff_ne.2 e3
                gi_wp2
                refine ⟨(KeepsOthers.setCell _ _ _).from _, .inr ⟨rfl, fun hh => e3 ?_⟩⟩
                have h0 : first + 0 < M.length := by omega
                have := (snoc_prefix (itemsOf M first) [] (y1, y2) List.nil_prefix hlt2).1 hh
                rw [show ([] : List (Nat × Nat)).length = 0 from rfl] at hlt2
                have e5 := items_get M first 0 h0 hlt2
                have e6 : (M[first + 0].2.1, M[first + 0].1) = (y1, y2) := e5.symm.trans this
                rw [← HF4.out (by omega)]
                exact congrArg (fun z : Nat × Nat => (z.1 : Int)) e6.symm
            case done2 =>
              rintro ys W' hys ⟨⟨_, h0⟩, _⟩
              rw [h0] at hys
              rw [← hys] at hlt
              simp at hlt
            case stop2 =>
              rintro c pre' W' hp (⟨rfl, ⟨bi2, bf2⟩, hB2, hK2⟩ | ⟨_, hn⟩)
              · have cI2 := bi2.cell
                have fI2 := bi2.frozen
                gi_wp2
                have b2 := Boxed.set (.int .i64 ((k : Nat) + 1)) bi2
                have hBs : Below (w1.heap.size + 1) W (W'.setCell ⟨w1.heap.size + 1, 0, none⟩ (.int .i64 ((k : Nat) + 1))) := Below.setCell hB2 (p := ⟨w1.heap.size + 1, 0, none⟩) (by simp) _
                refine ⟨hK2.trans ((KeepsOthers.setCell _ _ _).from _), hBs.mono (by have := hx1.sz; omega), ⟨⟨⟨?_, bf2.other (by omega) _⟩, HP2.out⟩, hB1.trans hBs⟩⟩
                have e := HKZ.out
                exact (congrArg (fun z => Boxed (W'.setCell ⟨w1.heap.size + 1, 0, none⟩ (.int .i64 ((k : Nat) + 1))) (w1.heap.size + 1) 3 (.int .i64 z)) e).mpr b2
              · exact absurd hp hn
          · have hsb : (((k : Nat) : Int) - (first : Nat) == stop) = false := beq_false_of_ne hst
            gi_wp2
            have b2 := Boxed.set (.int .i64 ((k : Nat) + 1)) bi1
            refine ⟨(KeepsOthers.setCell _ _ _).from _, Below.setCell (Below.refl _ W) (p := ⟨w1.heap.size + 1, 0, none⟩) (by have := hx1.sz; simp; omega) _, ⟨⟨⟨?_, bf1.other (by omega) _⟩, HP2.out⟩, Below.setCell hB1 (p := ⟨w1.heap.size + 1, 0, none⟩) (by simp) _⟩⟩
            have e := HKZ.out
            exact (congrArg (fun z => Boxed (W.setCell ⟨w1.heap.size + 1, 0, none⟩ (.int .i64 ((k : Nat) + 1))) (w1.heap.size + 1) 3 (.int .i64 z)) e).mpr b2
        · have hb1 : (((x2 : Nat) : Int) != (m1 : Nat)) = true := bne_iff_ne.2 (by omega)
          gi_wp2
          refine ⟨(KeepsOthers.setCell _ _ _).from _, rfl, fun hh => ?_⟩
          have := HSN.out.1 hh
          simp at this
          exact e2 this.symm
      · have hb1 : (((x1 : Nat) : Int) != (m2 : Nat)) = true := bne_iff_ne.2 (by omega)
        gi_wp2
        refine ⟨(KeepsOthers.setCell _ _ _).from _, rfl, fun hh => ?_⟩
        have := HSN.out.1 hh
        simp at this
        exact e1 this.1.symm
  clear HK
  go_loopw [23] (fun _ wr => ∃ k : Nat, k ≤ first ∧ Boxed wr (w1.heap.size + 1) 3 (.int .i64 (k : Nat)) ∧ Ext wX wr) (fun _ wr => M.length + 1 - ((wr.cell? ⟨w1.heap.size + 1, 0, none⟩).map intOf |>.getD 0).toNat)
  case atStart => exact ⟨0, by omega, bI, (Ext.refl wX).alloc _⟩
  case round =>
    obtain ⟨k, hk, bi, hxr⟩ := hrel
    have cI := bi.cell
    have fI := bi.frozen
    have ca := CAT.out wr hxr
    have cx := CX.out wr hxr
    have hrr := ownsRow_ext hrow hxr
    by_cases hlt : k < M.length
    · obtain ⟨g, rfl⟩ := HG.out (by omega)
      have d1 := (hrr.cellAt (k * 3 + 1) (by omega)).trans (HM.out k hlt).2.1
      have hdk : decide (((k : Nat) : Int) < (M.length : Nat)) = true := decide_eq_true (by omega)
      by_cases he : k < first
      · have hne := HF3.out k hlt he
        obtain ⟨fr, hfr⟩ : ∃ fr, M[k].2.1 = fr := ⟨_, rfl⟩
        rw [hfr] at hne d1
        clear hfr
        have hbt : (((fr : Nat) : Int) != at_) = true := bne_iff_ne.2 hne
        go_wp2_with fail
        go_quiet (fail)
        go_wp2_with fail
        have b2 := Boxed.set (.int .i64 ((k : Nat) + 1)) (show Boxed (wr.drewN nq) _ _ _ from bi)
        refine ⟨⟨k + 1, he, b2, (below_drewN hxr nq).setCell (p := ⟨w1.heap.size + 1, 0, none⟩) (by simp; omega) _⟩, ?_⟩
        rw [b2.cell, cI]
        simp [intOf]
        omega
      · have hkf : k = first := by omega
        obtain ⟨fr, hfr⟩ : ∃ fr, M[k].2.1 = fr := ⟨_, rfl⟩
        have heq : ((fr : Nat) : Int) = at_ := by have := HF4.out (by omega); simp only [← hkf] at this; rw [← this, hfr]
        rw [hfr] at d1
        clear hfr
        have hbt : (((fr : Nat) : Int) != at_) = false := by rw [heq]; simp
        have HKF := Lib.hid hkf
        clear heq hkf hk he
        go_wp2_with fail
        go_quiet (fail)
        go_wp2_with fail
        exact tail _ _ _ _ _ _ _ _ _ _ _ _ _ _ _ _ (HKF.out ▸ bi) (below_drewN hxr nq)
    · have hkf : k = first := by omega
      have hdk : decide (((k : Nat) : Int) < (M.length : Nat)) = false := decide_eq_false (by omega)
      have HKF := Lib.hid hkf
      clear hkf hk
      go_wp2_with fail
      go_quiet (fail)
      go_wp2_with fail
      exact tail _ _ _ _ _ _ _ _ _ _ _ _ _ _ _ _ (HKF.out ▸ bi) (below_drewN hxr nq)
end Go.Proofs.YtohpekbooapcjaaDoor
