/-
  The document's tables in plain words: ranges in as few as can be; all ranges; the runs that they make.
-/
import Derived.Test.YtbbemipidkhmfaaOrdM
namespace Go.Proofs.Ytbbemipidkhmfaa
open Go.RowKit

/-- In as few as can be: none of the rest's class; two that touch differ. -/
def NF (rest : Int) : List Rng → Prop
  | [] => True
  | x :: t => Ok1 x ∧ x.cl ≠ rest ∧ (∀ y ∈ t.head?, x.hi < y.lo ∧ (x.hi + 1 = y.lo → x.cl ≠ y.cl)) ∧ NF rest t
theorem NF.ok {rest : Int} : ∀ {l : List Rng}, NF rest l → ∀ x ∈ l, Ok1 x ∧ x.cl ≠ rest
  | y :: t, ⟨h1, h2, _, h4⟩, x, hx => by
    rcases List.mem_cons.1 hx with rfl | hx
    · exact ⟨h1, h2⟩
    · exact h4.ok x hx
theorem NF.lt {rest : Int} : ∀ {x : Rng} {t : List Rng}, NF rest (x :: t) → ∀ y ∈ t, x.hi < y.lo
  | x, z :: t, ⟨h1, h2, h3, h4⟩, y, hy => by
    have hz := (h3 z rfl).1
    rcases List.mem_cons.1 hy with rfl | hy
    · exact hz
    · have := NF.lt h4 y hy
      have := h4.1.2.1
      omega
theorem NF.rise {rest : Int} : ∀ {l : List Rng}, NF rest l → Rise l
  | [], _ => trivial
  | x :: t, h => ⟨h.1, h.lt, h.2.2.2.rise⟩
theorem NF.snoc {rest : Int} {x : Rng} : ∀ {l : List Rng}, NF rest l → Ok1 x → x.cl ≠ rest → (∀ y ∈ l.getLast?, y.hi < x.lo ∧ (y.hi + 1 = x.lo → y.cl ≠ x.cl)) → NF rest (l ++ [x])
  | [], _, ho, hc, _ => ⟨ho, hc, by simp, trivial⟩
  | [y], ⟨h1, h2, _, _⟩, ho, hc, hl => ⟨h1, h2, by intro z hz; simp at hz; subst hz; exact hl y rfl, ho, hc, by simp, trivial⟩
  | y :: z :: t, ⟨h1, h2, h3, h4⟩, ho, hc, hl => ⟨h1, h2, by simpa using h3, NF.snoc h4 ho hc (by intro a ha; exact hl a (by simpa [List.getLast?_cons_cons] using ha))⟩
theorem NF.init {rest : Int} {x : Rng} : ∀ {l : List Rng}, NF rest (l ++ [x]) → NF rest l ∧ ∀ y ∈ l.getLast?, y.hi < x.lo ∧ (y.hi + 1 = x.lo → y.cl ≠ x.cl)
  | [], _ => ⟨trivial, by simp⟩
  | [y], ⟨h1, h2, h3, h4⟩ => ⟨⟨h1, h2, by simp, trivial⟩, by intro z hz; simp at hz; subst hz; exact h3 x rfl⟩
  | y :: z :: t, ⟨h1, h2, h3, h4⟩ => by
    obtain ⟨g1, g2⟩ := NF.init (l := z :: t) h4
    exact ⟨⟨h1, h2, by simpa using h3, g1⟩, by intro a ha; exact g2 a (by simpa [List.getLast?_cons_cons] using ha)⟩
theorem NF.last {rest : Int} {x y : Rng} {l : List Rng} (h : NF rest (l ++ [x])) (ho : Ok1 y) (hc : y.cl = x.cl) (hlo : y.lo = x.lo) : NF rest (l ++ [y]) := by
  obtain ⟨h1, h2⟩ := h.init
  refine h1.snoc ho (by rw [hc]; exact (h.ok x (by simp)).2) fun z hz => ?_
  rw [hlo, hc]
  exact h2 z hz

theorem rev_ind {α : Type} {p : List α → Prop} (h0 : p []) (h1 : ∀ l x, p l → p (l ++ [x])) (l : List α) : p l := by
  have : ∀ l : List α, p l.reverse := fun l => by
    induction l with
    | nil => exact h0
    | cons x t ih => rw [List.reverse_cons]; exact h1 _ _ ih
  rw [← List.reverse_reverse l]
  exact this _
/-- One range more, of ranges that rise. -/
def normStep (rest : Int) (out : List Rng) (x : Rng) : List Rng :=
  if x.cl = rest then out else match out.getLast? with
    | none => out ++ [x]
    | some y => if y.hi + 1 = x.lo ∧ y.cl = x.cl then out.dropLast ++ [⟨y.lo, x.hi, y.cl⟩] else out ++ [x]
def normOf (rest : Int) (l : List Rng) : List Rng := l.foldl (normStep rest) []
theorem normOf_snoc (rest : Int) (l : List Rng) (x : Rng) : normOf rest (l ++ [x]) = normStep rest (normOf rest l) x := by simp [normOf]
theorem normOf_length (rest : Int) (l : List Rng) : (normOf rest l).length ≤ l.length := by
  induction l using rev_ind with
  | h0 => simp [normOf]
  | h1 l x ih =>
    rw [normOf_snoc, normStep]
    simp only [List.length_append, List.length_cons, List.length_nil]
    split
    · omega
    · split
      · simp; omega
      · split
        · rename_i y hy _
          have : 0 < (normOf rest l).length := by
            rcases h : normOf rest l with _ | ⟨a, b⟩
            · simp [h] at hy
            · simp
          simp
          omega
        · simp; omega
theorem rise_snoc_inv {l : List Rng} {x : Rng} (h : Rise (l ++ [x])) : Rise l ∧ (∀ y ∈ l, y.hi < x.lo) ∧ Ok1 x := by
  induction l with
  | nil => exact ⟨trivial, by simp, h.1⟩
  | cons y t ih =>
    obtain ⟨h1, h2, h3⟩ := h
    obtain ⟨g1, g2, g3⟩ := ih h3
    refine ⟨⟨h1, fun z hz => h2 z (by simp [hz]), g1⟩, fun z hz => ?_, g3⟩
    rcases List.mem_cons.1 hz with rfl | hz
    · exact h2 x (by simp)
    · exact g2 z hz
theorem Rise.left {b : List Rng} : ∀ {a : List Rng}, Rise (a ++ b) → Rise a
  | [], _ => trivial
  | x :: t, ⟨h1, h2, h3⟩ => ⟨h1, fun y hy => h2 y (by simp [hy]), Rise.left h3⟩
/-- What is made of ranges that rise. -/
theorem normOf_spec {rest : Int} {l : List Rng} (h : Rise l) : NF rest (normOf rest l) ∧ (∀ r, clsOf (normOf rest l) rest r = clsOf l rest r) ∧ ∀ y ∈ normOf rest l, ∃ z ∈ l, y.hi = z.hi := by
  induction l using rev_ind with
  | h0 => exact ⟨trivial, fun _ => rfl, by simp [normOf]⟩
  | h1 l x ih =>
    obtain ⟨h1, h2, h3⟩ := rise_snoc_inv h
    obtain ⟨i1, i2, i3⟩ := ih h1
    have hlt : ∀ y ∈ normOf rest l, y.hi < x.lo := fun y hy => by
      obtain ⟨z, hz, e⟩ := i3 y hy
      rw [e]
      exact h2 z hz
    rw [normOf_snoc]
    obtain ⟨out, hout⟩ : ∃ out, normOf rest l = out := ⟨_, rfl⟩
    rw [hout] at i1 i2 i3 hlt ⊢
    have keep : ∀ y ∈ out, ∃ z ∈ l ++ [x], y.hi = z.hi := fun y hy => by
      obtain ⟨z, hz, e⟩ := i3 y hy
      exact ⟨z, by simp [hz], e⟩
    have hsn : ∀ r, clsOf (l ++ [x]) rest r = if x.lo ≤ r ∧ r ≤ x.hi then x.cl else clsOf l rest r := fun r => clsOf_snoc h2
    have plain : x.cl ≠ rest → (∀ y ∈ out.getLast?, ¬ (y.hi + 1 = x.lo ∧ y.cl = x.cl)) → NF rest (out ++ [x]) ∧ (∀ r, clsOf (out ++ [x]) rest r = clsOf (l ++ [x]) rest r) ∧ ∀ y ∈ out ++ [x], ∃ z ∈ l ++ [x], y.hi = z.hi := by
      intro hc hn
      refine ⟨i1.snoc h3 hc fun y hy => ⟨hlt y (List.mem_of_getLast? hy), fun e e2 => hn y hy ⟨e, e2⟩⟩, fun r => ?_, fun y hy => ?_⟩
      · rw [hsn, clsOf_snoc hlt, i2]
      · rcases List.mem_append.1 hy with hy | hy
        · exact keep y hy
        · simp at hy; subst hy; exact ⟨y, by simp, rfl⟩
    unfold normStep
    by_cases hc : x.cl = rest
    · rw [if_pos hc]
      refine ⟨i1, fun r => ?_, keep⟩
      rw [hsn]
      split
      · rename_i hr
        rw [clsOf_none, hc]
        intro y hy hh
        have := hlt y hy
        omega
      · exact i2 r
    · rw [if_neg hc]
      rcases List.eq_nil_or_concat out with rfl | ⟨pre, y, rfl⟩
      · exact plain hc (by simp)
      · rw [List.concat_eq_append] at *
        simp only [List.getLast?_concat, List.dropLast_concat]
        split
        · rename_i hh
          obtain ⟨e1, e2⟩ := hh
          have hy := i1.ok y (by simp)
          have hyo : Ok1 ⟨y.lo, x.hi, y.cl⟩ := ⟨hy.1.1, by show y.lo ≤ x.hi; have := hy.1.2.1; have := h3.2.1; omega, h3.2.2.1, hy.1.2.2.2⟩
          have hpre : ∀ z ∈ pre, z.hi < y.lo := (rise_snoc_inv i1.rise).2.1
          refine ⟨i1.last hyo rfl rfl, fun r => ?_, fun z hz => ?_⟩
          · rw [hsn, ← i2, clsOf_snoc (x := ⟨y.lo, x.hi, y.cl⟩) hpre, clsOf_snoc hpre]
            simp only
            have hx := h3.2.1
            have hyl := hy.1.2.1
            by_cases q1 : x.lo ≤ r ∧ r ≤ x.hi
            · rw [if_pos q1, if_pos (by omega), e2]
            · rw [if_neg q1]
              by_cases q2 : y.lo ≤ r ∧ r ≤ y.hi
              · rw [if_pos q2, if_pos (by omega)]
              · rw [if_neg q2, if_neg (by omega)]
          · rcases List.mem_append.1 hz with hz | hz
            · exact keep z (by simp [hz])
            · simp at hz; subst hz; exact ⟨x, by simp, rfl⟩
        · rename_i hh
          exact plain hc (by intro z hz; simp at hz; subst hz; exact hh)

/-- All ranges, from a number on. -/
def allGo (rest : Int) : Int → List Rng → List Rng
  | next, [] => if next ≤ 1114111 then [⟨next, 1114111, rest⟩] else []
  | next, x :: t => (if next < x.lo then [⟨next, x.lo - 1, rest⟩] else []) ++ x :: allGo rest (x.hi + 1) t
theorem allGo_head {rest : Int} {next : Int} {t : List Rng} (h : NF rest t) (hl : ∀ x ∈ t, next ≤ x.lo) : ∀ y ∈ (allGo rest next t).head?, y.cl = rest ∨ ∃ z ∈ t.head?, y = z ∧ z.lo = next := by
  intro y hy
  cases t with
  | nil =>
    rw [allGo] at hy
    split at hy
    · simp at hy; subst hy; exact .inl rfl
    · simp at hy
  | cons x t =>
    rw [allGo] at hy
    split at hy
    · simp at hy; subst hy; exact .inl rfl
    · simp at hy; subst hy
      have := hl x (by simp)
      exact .inr ⟨x, rfl, rfl, by omega⟩
theorem allGo_runs {rest : Int} : ∀ {l : List Rng} {next : Int}, NF rest l → (∀ x ∈ l, next ≤ x.lo) → next ≤ 1114112 → RunsFrom (clsOf l rest) next 1114112 (allGo rest next l) ∧ (allGo rest next l).filter (fun x => !(x.cl == rest)) = l
  | [], next, _, _, hn => by
    rw [allGo]
    split
    · exact ⟨⟨rfl, by show next ≤ 1114111; omega, fun r _ _ => rfl, by simp, by show (1114111 : Int) + 1 = 1114112; omega⟩, by simp⟩
    · exact ⟨by rw [RunsFrom]; omega, rfl⟩
  | x :: t, next, h, hl, hn => by
    have hlt := h.lt
    obtain ⟨⟨o1, o2, o3, o4, o5⟩, h2, h3, h4⟩ := h
    have hxl := hl x (by simp)
    obtain ⟨i1, i2⟩ := allGo_runs (next := x.hi + 1) h4 (fun y hy => by have := hlt y hy; omega) (by omega)
    have i3 : RunsFrom (clsOf (x :: t) rest) (x.hi + 1) 1114112 (allGo rest (x.hi + 1) t) := i1.congr fun r hr _ => by rw [clsOf, if_neg (by omega)]
    have hx : RunsFrom (clsOf (x :: t) rest) x.lo 1114112 (x :: allGo rest (x.hi + 1) t) := by
      refine ⟨rfl, o2, fun r a b => by rw [clsOf, if_pos ⟨a, b⟩], fun y hy => ?_, i3⟩
      rcases allGo_head h4 (fun y hy => by have := hlt y hy; omega) y hy with e | ⟨z, hz, rfl, e⟩
      · rw [e]; exact fun e => h2 e.symm
      · exact fun e2 => (h3 y hz).2 e.symm e2.symm
    have hc : (!(x.cl == rest)) = true := by simp [h2]
    rw [allGo]
    split
    · refine ⟨⟨rfl, by show next ≤ x.lo - 1; omega, fun r a b => ?_, ?_, ?_⟩, ?_⟩
      · have b' : r ≤ x.lo - 1 := b
        rw [clsOf, if_neg (by omega)]
        exact clsOf_none fun y hy hh => by have := hlt y hy; omega
      · intro y hy
        simp at hy
        subst hy
        exact h2
      · show RunsFrom _ (x.lo - 1 + 1) _ _
        rw [show x.lo - 1 + 1 = x.lo from by omega]
        exact hx
      · simp [i2, h2]
    · have e : next = x.lo := by omega
      subst e
      exact ⟨hx, by simp [i2, h2]⟩
theorem NF.all {rest : Int} {L : List Rng} (h : NF rest L) : RunsFrom (clsOf L rest) 0 1114112 (allGo rest 0 L) ∧ (allGo rest 0 L).filter (fun x => !(x.cl == rest)) = L :=
  allGo_runs h (fun x hx => (h.ok x hx).1.1) (by omega)
/-- Runs that are not the rest's are as few as can be. -/
theorem RunsFrom.nf {f : Int → Int} {rest : Int} (hf : ∀ r, 0 ≤ r → r ≤ 1114111 → 0 ≤ f r ∧ f r ≤ 255) : ∀ {l : List Rng} {s : Int}, 0 ≤ s → RunsFrom f s 1114112 l → NF rest (l.filter (fun x => !(x.cl == rest))) ∧ ∀ y ∈ (l.filter (fun x => !(x.cl == rest))).head?, s ≤ y.lo ∧ (y.lo = s → y ∈ l.head?)
  | [], s, _, _ => ⟨trivial, by simp⟩
  | x :: t, s, h0, ⟨a1, a2, a3, a4, a5⟩ => by
    obtain ⟨i1, i2⟩ := RunsFrom.nf (rest := rest) hf (by omega) a5
    have hle := a5.le
    have hv := hf x.lo (by omega) (by omega)
    rw [a3 x.lo (Int.le_refl _) a2] at hv
    by_cases hc : x.cl = rest
    · rw [List.filter_cons_of_neg (by simp [hc])]
      refine ⟨i1, fun y hy => ?_⟩
      have := (i2 y hy).1
      exact ⟨by omega, fun e => by omega⟩
    · rw [List.filter_cons_of_pos (by simp [hc])]
      refine ⟨⟨⟨by omega, a2, by omega, hv⟩, hc, fun y hy => ?_, i1⟩, fun y hy => ?_⟩
      · obtain ⟨g1, g2⟩ := i2 y hy
        exact ⟨by omega, fun e e2 => a4 y (g2 e.symm) e2.symm⟩
      · simp at hy
        subst hy
        exact ⟨by omega, fun _ => by simp⟩
/-- Two lists in as few as can be that say the same are the same. -/
theorem NF.same {rest : Int} {L M : List Rng} (hL : NF rest L) (hM : NF rest M) (h : ∀ r, 0 ≤ r → r < 1114112 → clsOf L rest r = clsOf M rest r) : L = M := by
  obtain ⟨a1, a2⟩ := hL.all
  obtain ⟨b1, b2⟩ := hM.all
  have e := (a1.congr h).unique b1
  rw [← a2, ← b2, e]
theorem NF.out {rest : Int} {L : List Rng} (h : NF rest L) {r : Int} (hr : ¬ (0 ≤ r ∧ r ≤ 1114111)) : clsOf L rest r = rest := by
  refine clsOf_none fun x hx hh => hr ?_
  obtain ⟨o1, o2, o3, _⟩ := (h.ok x hx).1
  omega
theorem NF.bound {rest : Int} {L : List Rng} (h : NF rest L) (hr : 0 ≤ rest ∧ rest ≤ 255) : ∀ r, 0 ≤ r → r ≤ 1114111 → 0 ≤ clsOf L rest r ∧ clsOf L rest r ≤ 255 := fun r _ _ => clsOf_range (fun x hx => (h.ok x hx).1) hr.1 hr.2
end Go.Proofs.Ytbbemipidkhmfaa
