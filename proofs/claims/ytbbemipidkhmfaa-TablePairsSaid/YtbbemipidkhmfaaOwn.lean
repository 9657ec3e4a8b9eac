/-
  own: ranges in a list of their own.
-/
import Derived.Test.YtbbemipidkhmfaaWalkW
namespace Go.Proofs.Ytbbemipidkhmfaa
open Go.RowKit Go.Maps Go.Shelf

theorem own_empty (w : World) : (w.alloc (.cells #[] 32)).ownsRow w.heap.size 32 3 (.slice (some ⟨w.heap.size, 0, none⟩) 0 0) 0 [] :=
  ⟨rfl, .inr ⟨_, 0, _, rfl, Nat.le_refl _, World.alloc_heap_new w _, Nat.le_refl _, by decide, rfl, rfl⟩⟩
theorem rgRow_news {w : World} {b off n cap : Nat} {l : List Rng} (h : RgRow w (.slice (some ⟨b, off, none⟩) n cap) l) : ∀ j u, (rgCells l)[j]? = some u → w.cell? ((⟨b, off, none⟩ : Addr).add j) = some u := by
  intro j u hu
  have hadd : (⟨b, off, none⟩ : Addr).add j = ⟨b, off + j, none⟩ := by unfold Addr.add; split <;> simp_all
  rw [hadd]
  have hj : j < l.length * 3 := by
    rw [← rgCells_length]
    exact (List.getElem?_eq_some_iff.1 hu).1
  have hi : j / 3 < l.length := by omega
  obtain ⟨b1, o1, e, hc⟩ := h.at (by intro e; rw [e] at hi; simp at hi)
  cases e
  obtain ⟨a1, a2, a3⟩ := hc (j / 3) hi
  obtain ⟨pre, suf, hpt, hpl⟩ : ∃ pre suf, l = pre ++ l[j / 3] :: suf ∧ pre.length = j / 3 := ⟨l.take (j / 3), l.drop (j / 3 + 1), by rw [← List.drop_eq_getElem_cons hi, List.take_append_drop], by rw [List.length_take]; omega⟩
  obtain ⟨g1, g2, g3⟩ := rgCells_get pre l[j / 3] suf
  rw [← hpt, hpl] at g1 g2 g3
  obtain h0 | h0 | h0 : j = j / 3 * 3 ∨ j = j / 3 * 3 + 1 ∨ j = j / 3 * 3 + 2 := by omega
  · rw [h0, g1] at hu
    cases hu
    conv => lhs; rw [h0]
    exact a1
  · rw [h0, g2] at hu
    cases hu
    conv => lhs; rw [h0, ← Nat.add_assoc]
    exact a2
  · rw [h0, g3] at hu
    cases hu
    conv => lhs; rw [h0, ← Nat.add_assoc]
    exact a3
theorem rgCells_one {l : List Rng} : ∀ u ∈ rgCells l, u.oneCell' = true := by
  intro u hu
  simp only [rgCells, List.mem_flatMap, rgV, List.mem_cons, List.not_mem_nil, or_false] at hu
  obtain ⟨x, _, rfl | rfl | rfl⟩ := hu <;> rfl

set_option maxRecDepth 100000 in
set_option maxHeartbeats 4000000 in
theorem c_own (v : Value) (l : List Rng) (w : World) (h : RgRow w v l) (hl : l.length ≤ 2000000) :
    Calls Try.prog 13 #[v] w fun e w' => ∃ v', e = .returned v' ∧ w'.ownsRow w.heap.size 32 3 v' l.length (rgCells l) ∧ Ext w w' := by
  obtain ⟨i0, hi0, hz0, hz1, hz2⟩ := info_parts info32p
  obtain ⟨p, cap, rfl⟩ : ∃ p cap, v = .slice p l.length cap := by obtain ⟨p, cap, e, _⟩ := h; exact ⟨p, cap, e⟩
  have hxA := (Ext.refl w).alloc (.cells #[] 32)
  have hown := own_empty w
  cases p with
  | none =>
    have hl0 : l = [] := by
      by_cases hl : l = []
      · exact hl
      · obtain ⟨b, o, e, _⟩ := h.at hl; cases e
    subst hl0
    clear h
    go_enter Try.func13, Try.ntmps13
    go_wp2_with fail
    go_ret
    exact ⟨_, rfl, hown, hxA⟩
  | some a =>
    have hA : ∀ j u, (rgCells l)[j]? = some u → (w.alloc (.cells #[] 32)).cell? (a.add j) = some u := by
      by_cases hl : l = []
      · subst hl; intro j u hu; simp [rgCells] at hu
      · obtain ⟨b, o, e, _⟩ := h.at hl
        cases e
        exact rgRow_news (h.mono hxA)
    go_enter Try.func13, Try.ntmps13
    go_wp2_with (at_builtin; refine wpList_append_own _ rfl (.tmp 3) (.tmp 4) 25 rfl w.heap.size 32 i0 (.agg #[.int .i32 0, .int .i32 0, .int .i64 0]) 3 16 Try.underlying25 hi0 hz0 hz1 hz2 rfl (by decide) _ 0 [] rfl hown a l.length cap (rgCells l) rfl (rgCells_length l) hA rgCells_one (by unfold maxLen; omega) (by omega) (by simp) ?_; intro v' w1 hown' hgrow _)
    go_ret
    refine ⟨v', rfl, ?_, ?_⟩
    · simpa using hown'
    · exact Below.grown hxA hgrow (by simp) (fun k e => (hown.lt k e).1)
end Go.Proofs.Ytbbemipidkhmfaa
