/-
  Build.
-/
import Derived.Shelf.SlSortCmp.NoneTotal
import Derived.Test.YtbbemipidkhmfaaWalkU
namespace Go.Proofs.Ytbbemipidkhmfaa
open Go.RowKit Go.Maps Go.Shelf

set_option maxRecDepth 100000 in
set_option maxHeartbeats 4000000 in
theorem c_SortedFunc (Bs : Nat) (sv : Value) (l : List Rng) (w0 w : World) (h : RgRow w0 sv l) (hx : Ext w0 w) (hBs : w.heap[Bs]? = some (.cells #[sv] 25)) (hl : l.length ≤ 2000000) :
    Calls Try.prog 38 #[.func (.func 71) #[] #[.pointer (some ⟨Bs, 0, none⟩)], .func (.func 40) #[] #[]] w fun e w' =>
      ∃ (v : Value) (l' : List Rng), e = .returned v ∧ l'.Perm l ∧ l'.Pairwise (fun x y => x.lo ≤ y.lo) ∧ RgRow w' v l' ∧ Ext w w' := by
  go_enter Try.func38, Try.ntmps38
  go_wp2_with fail
  refine (c_Collect Bs sv l w0 w h hx hBs hl).mono ?_
  rintro e w1 ⟨v, rfl, ho, hx1⟩
  by_cases hl0 : l = []
  · subst hl0
    obtain ⟨p, cap, rfl⟩ : ∃ p cap, v = .slice p 0 cap := by obtain ⟨p, cap, e, _⟩ := RgRow.of_own (l := []) ho; exact ⟨p, cap, e⟩
    have hr := RgRow.of_own (l := []) ho
    go_wp2_with fail
    refine (Calls.mono (AnyF.slices_SortFunc_none Try.sortR p cap (.func (.func 40) #[] #[]) w1) ?_)
    rintro e w2 ⟨rfl, rfl⟩
    go_wp2_with fail
    go_ret
    exact ⟨_, [], rfl, List.Perm.refl _, List.Pairwise.nil, hr, hx1⟩
  · have hpos : 0 < l.length := List.length_pos_iff.2 hl0
    obtain ⟨g, cap, rfl⟩ := ownsRow_pos ho hpos
    have hsz := hx1.sz
    go_wp2_with fail
    refine (c_SortFunc w.heap.size g cap l w1 ho hsz hl).mono ?_
    rintro e w2 ⟨rfl, l', hp, hs, hr, hb⟩
    go_wp2_with fail
    go_ret
    exact ⟨_, l', rfl, hp, hs, hr, Below.trans hx1 hb⟩

theorem hits_symm {x y : Rng} (h : hits x y = false) : hits y x = false := by
  simp only [hits, Bool.and_eq_false_iff, decide_eq_false_iff_not] at *
  rcases h with h | h
  · exact .inr h
  · exact .inl h
/-- Ranges that do not meet. -/
def Apart (l : List Rng) : Prop := l.Pairwise fun x y => hits x y = false
theorem checkGo_ok : ∀ (t pre : List Rng) (i : Nat), (checkGo pre t i).1 = 0 → Apart pre → Apart (pre ++ t) ∧ ∀ x ∈ t, Ok1 x
  | [], pre, i, _, hp => ⟨by simpa using hp, by simp⟩
  | x :: t, pre, i, h, hp => by
    rw [checkGo] at h
    split at h
    · simp at h
    · rename_i hok
      split at h
      · simp at h
      · rename_i hany
        have hap : Apart (pre ++ [x]) := by
          refine List.pairwise_append.2 ⟨hp, List.pairwise_singleton _ _, fun a ha b hb => ?_⟩
          simp at hb
          subst hb
          simp only [List.any_eq_true, not_exists, not_and] at hany
          exact hits_symm (by simpa using hany a ha)
        obtain ⟨h1, h2⟩ := checkGo_ok t (pre ++ [x]) (i + 1) h hap
        rw [List.append_assoc] at h1
        refine ⟨h1, fun y hy => ?_⟩
        rcases List.mem_cons.1 hy with rfl | hy
        · exact okR_iff.1 (by simpa using hok)
        · exact h2 y hy
theorem checkOf_ok {l : List Rng} {rest : Int} (h : (checkOf l rest).1 = 0) : (0 ≤ rest ∧ rest ≤ 255) ∧ l.length ≤ 4096 ∧ Apart l ∧ ∀ x ∈ l, Ok1 x := by
  rw [checkOf] at h
  split at h
  · simp at h
  · rename_i hr
    split at h
    · simp at h
    · rename_i hlen
      obtain ⟨h1, h2⟩ := checkGo_ok l [] 0 h List.Pairwise.nil
      exact ⟨by simpa [isCls] using hr, by omega, by simpa using h1, h2⟩
theorem rise_of : ∀ {l : List Rng}, l.Pairwise (fun x y => x.lo ≤ y.lo) → Apart l → (∀ x ∈ l, Ok1 x) → Rise l
  | [], _, _, _ => trivial
  | x :: t, hs, ha, ho => by
    obtain ⟨s1, s2⟩ := List.pairwise_cons.1 hs
    obtain ⟨a1, a2⟩ := List.pairwise_cons.1 ha
    refine ⟨ho x (by simp), fun y hy => ?_, rise_of s2 a2 fun y hy => ho y (by simp [hy])⟩
    have h1 := s1 y hy
    have h2 := a1 y hy
    have h3 := ho y (by simp [hy])
    simp only [hits, Bool.and_eq_false_iff, decide_eq_false_iff_not] at h2
    obtain ⟨_, h4, _⟩ := h3
    rcases h2 with h2 | h2 <;> omega
theorem clsOf_mem : ∀ {l : List Rng} {rest r : Int} {x : Rng}, Apart l → x ∈ l → x.lo ≤ r → r ≤ x.hi → clsOf l rest r = x.cl
  | y :: t, rest, r, x, ha, hx, h1, h2 => by
    obtain ⟨a1, a2⟩ := List.pairwise_cons.1 ha
    rw [clsOf]
    rcases List.mem_cons.1 hx with rfl | hx
    · rw [if_pos ⟨h1, h2⟩]
    · rw [if_neg, clsOf_mem a2 hx h1 h2]
      have := a1 x hx
      simp only [hits, Bool.and_eq_false_iff, decide_eq_false_iff_not] at this
      omega
theorem clsOf_perm {l l' : List Rng} (hp : l'.Perm l) (ha : Apart l) (rest : Int) : clsOf l' rest = clsOf l rest := by
  have ha' : Apart l' := (hp.pairwise_iff (fun h => hits_symm h)).2 ha
  funext r
  by_cases h : ∃ x ∈ l, x.lo ≤ r ∧ r ≤ x.hi
  · obtain ⟨x, hx, h1, h2⟩ := h
    rw [clsOf_mem ha hx h1 h2, clsOf_mem ha' (hp.mem_iff.2 hx) h1 h2]
  · rw [clsOf_none (fun x hx hh => h ⟨x, hx, hh⟩), clsOf_none (fun x hx hh => h ⟨x, hp.mem_iff.1 hx, hh⟩)]

set_option maxRecDepth 100000 in
set_option maxHeartbeats 4000000 in
/-- Build. -/
theorem c_Build (v : Value) (l : List Rng) (rest : Int) (w : World) (h : RgRow w v l) :
    Calls Try.prog 12 #[v, .int .i64 rest] w fun e w' => Ext w w' ∧
      ((checkOf l rest).1 ≠ 0 ∧ e = .returned (.tuple #[.pointer none, .int .i64 (checkOf l rest).1, .int .i64 (checkOf l rest).2]) ∨
       (checkOf l rest).1 = 0 ∧ ∃ T, e = .returned (.tuple #[T, .int .i64 0, .int .i64 0]) ∧ IsTb w' T rest (clsOf l rest) ∧ FreshT w.heap.size w' T) := by
  obtain ⟨p, cap, rfl⟩ : ∃ p cap, v = .slice p l.length cap := by obtain ⟨p, cap, e, _⟩ := h; exact ⟨p, cap, e⟩
  obtain ⟨⟨e1, i1⟩, hce⟩ : ∃ c, checkOf l rest = c := ⟨_, rfl⟩
  have HCE := Lib.hid hce
  rw [hce]
  clear hce
  go_enter Try.func12, Try.ntmps12
  go_wp2_with fail
  refine (c_check _ l rest w h).mono ?_
  rintro e w1 ⟨rfl, hx1⟩
  rw [HCE.out]
  by_cases he : e1 = 0
  · subst he
    obtain ⟨hr0, hlen, hap, hok⟩ := checkOf_ok (l := l) (rest := rest) (by rw [HCE.out])
    have HAP := Lib.hid hap
    have HOK := Lib.hid hok
    have hx1' := hx1
    clear hap hok
    go_wp2_with fail
    refine (c_Values p l.length cap w1).mono ?_
    rintro e w2 ⟨rfl, rfl⟩
    go_wp2_with fail
    refine (c_SortedFunc w1.heap.size (.slice p l.length cap) l w (w1.alloc (.cells #[.slice p l.length cap] 25)) h (Ext.alloc hx1 _) (World.alloc_heap_new w1 _) (by omega)).mono ?_
    rintro e w3 ⟨v3, l3, rfl, hp3, hs3, hr3, hx3⟩
    have hx03 : Ext w w3 := Ext.trans (Ext.alloc hx1 _) hx3
    have hrise : Rise l3 := rise_of hs3 ((hp3.pairwise_iff (fun h => hits_symm h)).2 HAP.out) fun x hx => HOK.out x (hp3.mem_iff.1 hx)
    have hcls := clsOf_perm hp3 HAP.out rest
    have HCLS := Lib.hid hcls
    clear hcls hs3 hp3
    go_wp2_with fail
    refine (c_of v3 l3 rest w3 hr3 hrise hr0.1 hr0.2).mono ?_
    rintro e w4 ⟨T, rfl, ⟨tb, mf, fb, ms, U, ix, cs, hixl, hof⟩, hx4⟩
    obtain ⟨ob, oc, ub, uc, htab⟩ := hof.tab hixl hr0
    have hfr := (hof.fresh htab).le (m := w.heap.size) hx03.sz
    clear hof
    go_wp2_with fail
    refine bodyPost_ret (v := .tuple #[.pointer (some ⟨T, 0, none⟩), .int .i64 0, .int .i64 0]) (by simp [results, Try.results12, go_sem]) rfl ⟨Ext.trans hx03 hx4, _, rfl, ?_⟩
    rw [← HCLS.out]
    exact ⟨⟨T, U, ix, ob, oc, ub, uc, rfl, htab⟩, hfr⟩
  · have hne : (e1 != 0) = true := by simpa using he
    have HNE := Lib.hid he
    clear he
    go_wp2_with fail
    exact bodyPost_ret (v := .tuple #[.pointer none, .int .i64 e1, .int .i64 i1]) (by simp [results, Try.results12, go_sem]) rfl ⟨hx1, .inl ⟨HNE.out, rfl⟩⟩
end Go.Proofs.Ytbbemipidkhmfaa
