/-
  Blanks in the place of tabs, letter by letter, in plain Lean; a text cut at a bound.
-/
import Derived.Test.YtafmhmcinhbpfaaGreatDoorPlainM
namespace Go.Gr
open Go.Rp

/-- A letter is a tab, or holds none. -/
theorem groups_tab {k : Cell} (ok : k.Ok) : ∀ (rs : List Nat) (st : G) (cur : List Nat), ((cur = [9] ∧ st.c = 3 ∧ st.join = false ∧ st.fl = 0) ∨ 9 ∉ cur) → ∀ g ∈ groups k.cl st cur rs, g = [9] ∨ 9 ∉ g
  | [], st, cur, h, g, hg => by
    rw [groups, List.mem_singleton] at hg
    subst hg
    rcases h with h | h
    · exact .inl h.1
    · exact .inr h
  | r :: rs, st, cur, h, g, hg => by
    rw [groups] at hg
    have hn9 : r = 9 → st.same (k.cl r) = false ∧ (st.next (k.cl r)).c = 3 ∧ (st.next (k.cl r)).join = false ∧ (st.next (k.cl r)).fl = 0 := by
      rintro rfl
      rw [ok.t3]
      refine ⟨?_, rfl, ?_, rfl⟩
      · unfold G.same
        rw [joinsTo3]
        simp
      · simp [G.next]
    split at hg
    · rename_i hs
      have hr : r ≠ 9 := fun e => by rw [(hn9 e).1] at hs; cases hs
      refine groups_tab ok rs _ _ (.inr ?_) g hg
      rcases h with ⟨rfl, h1, h2, h3⟩ | h
      · exfalso
        unfold G.same at hs
        rw [h1, joins3, h2, h3] at hs
        simp at hs
      · intro h9
        rcases List.mem_append.1 h9 with h9 | h9
        · exact h h9
        · exact hr (List.mem_singleton.1 h9).symm
    · rcases List.mem_cons.1 hg with rfl | hg
      · rcases h with h | h
        · exact .inl h.1
        · exact .inr h
      · refine groups_tab ok rs _ _ ?_ g hg
        by_cases hr : r = 9
        · subst hr
          exact .inl ⟨rfl, (hn9 rfl).2⟩
        · exact .inr (by simpa using Ne.symm hr)
theorem runes_tab {p a : List UInt8} (hp : 9 ∉ p) : runesOf (p ++ 9 :: a) = runesOf p ++ 9 :: runesOf a := by
  have h1 := runesOf_fB (p ++ 9 :: a).length [] (p ++ 9 :: a) (Nat.le_refl _) (by simp)
  clear h1
  have hb : ∀ (n : Nat) (q : List UInt8), q.length ≤ n → 9 ∉ q → runesOf (q ++ 9 :: a) = runesOf q ++ 9 :: runesOf a := by
    intro n
    induction n with
    | zero =>
      intro q hq _
      obtain rfl : q = [] := List.length_eq_zero_iff.1 (by omega)
      have hd : dec (9 :: a) = (9, 1) := by
        unfold dec Go.Lib.decodeN
        rw [if_pos (by show (9 : UInt8).toNat < 128; decide)]
        rfl
      rw [List.nil_append, runesOf_step _ (by simp)]
      have h1 : Rp.run (9 :: a) = 9 := by unfold Rp.run; rw [hd]
      have h2 : wid (9 :: a) = 1 := by unfold wid; rw [hd]
      rw [h1, h2]
      rfl
    | succ n ih =>
      intro q hq h9
      by_cases h0 : q = []
      · subst h0; exact ih [] (by simp) (by simp)
      · have hd : dec (q ++ 9 :: a) = dec q := dec_seam q (9 :: a) h0 (fun c r e => by obtain ⟨rfl, -⟩ := List.cons.inj e; exact cont9)
        have hr : Rp.run (q ++ 9 :: a) = Rp.run q := by unfold Rp.run; rw [hd]
        have hw : wid (q ++ 9 :: a) = wid q := by unfold wid; rw [hd]
        have hl := wid_le q h0
        have hp2 := wid_pos q
        rw [runesOf_step _ (by simp), runesOf_step q h0, hr, hw, List.drop_append_of_le_length hl, ih (q.drop (wid q)) (by rw [List.length_drop]; omega) (fun h => h9 (List.mem_of_mem_drop h))]
        rfl
  exact hb p.length p (Nat.le_refl _) hp
theorem tab_runes (x : List UInt8) (h : runesOf x = [9] ∨ 9 ∉ runesOf x) : x = [9] ∨ 9 ∉ x := by
  rcases split9 x with h1 | ⟨p, a, rfl, h1⟩
  · exact .inr h1
  · rw [runes_tab h1] at h
    rcases h with h | h
    · have hl := congrArg List.length h
      simp only [List.length_append, List.length_cons, List.length_nil] at hl
      have hp : runesOf p = [] := List.length_eq_zero_iff.1 (by omega)
      have ha : runesOf a = [] := List.length_eq_zero_iff.1 (by omega)
      have hp0 : p = [] := by
        apply Decidable.byContradiction
        intro hn
        rw [runesOf_step p hn] at hp
        cases hp
      have ha0 : a = [] := by
        apply Decidable.byContradiction
        intro hn
        rw [runesOf_step a hn] at ha
        cases ha
      subst hp0 ha0
      exact .inl rfl
    · exact absurd (by simp) h
theorem letters_tab {k : Cell} (ok : k.Ok) (l : List UInt8) : ∀ x ∈ letters k.cl l, x = [9] ∨ 9 ∉ x := by
  intro x hx
  refine tab_runes x ?_
  by_cases h : l = []
  · subst h
    simp [letters, bounds, pairsOf] at hx
  · have hg := letters_groups k.cl l h
    have hm : runesOf x ∈ groups k.cl (G.first (k.cl (Rp.run l))) [Rp.run l] (runesOf (l.drop (wid l))) := by
      rw [← hg]
      exact List.mem_map.2 ⟨x, hx, rfl⟩
    refine groups_tab ok _ _ _ ?_ _ hm
    by_cases h9 : Rp.run l = 9
    · rw [h9, ok.t3]
      exact .inl ⟨rfl, rfl, rfl, rfl⟩
    · exact .inr (by simpa using Ne.symm h9)
/-- How many blanks each letter that begins with a tab becomes. -/
def cntL (k : Cell) : Nat → List (List Nat) → List Nat
  | _, [] => []
  | col, g :: gs => (if g.headD 0 = 9 then [k.tab - col % k.tab] else []) ++ cntL k (behindR k col g) gs
theorem groups_cons (cl : Nat → Nat) : ∀ (rs : List Nat) (st : G) (cur : List Nat), ∃ b t, groups cl st cur rs = (cur ++ b) :: t
  | [], st, cur => ⟨[], [], by simp [groups]⟩
  | r :: rs, st, cur => by
    rw [groups]
    split
    · obtain ⟨b, t, h⟩ := groups_cons cl rs (st.next (cl r)) (cur ++ [r])
      exact ⟨[r] ++ b, t, by rw [h, List.append_assoc]⟩
    · exact ⟨[], _, by rw [List.append_nil]⟩
theorem cGo_groups {k : Cell} (ok : k.Ok) : ∀ (rs : List Nat) (w : W), ∀ g t, groups k.cl w.g w.cur rs = g :: t → cGo k w rs = cntL k (behindR k w.col g) t
  | [], w, g, t, h => by
    rw [groups] at h
    obtain ⟨rfl, rfl⟩ := List.cons.inj h
    rfl
  | r :: rs, w, g, t, h => by
    rw [groups] at h
    rw [cGo]
    by_cases hs : w.g.same (k.cl r) = true
    · have hr : r ≠ 9 := by
        rintro rfl
        rw [ok.t3] at hs
        unfold G.same at hs
        rw [joinsTo3] at hs
        simp at hs
      rw [if_pos hs] at h
      have hn : w.next k r = ⟨w.g.next (k.cl r), w.col, w.cur ++ [r]⟩ := by unfold W.next; rw [if_pos hs]
      rw [if_neg hr, hn, List.nil_append]
      exact cGo_groups ok rs ⟨w.g.next (k.cl r), w.col, w.cur ++ [r]⟩ g t h
    · rw [if_neg hs] at h
      obtain ⟨rfl, rfl⟩ := List.cons.inj h
      have hn : w.next k r = ⟨w.g.next (k.cl r), w.val k, [r]⟩ := by unfold W.next; rw [if_neg hs]
      obtain ⟨b, t, hb⟩ := groups_cons k.cl rs (w.g.next (k.cl r)) [r]
      have := cGo_groups ok rs ⟨w.g.next (k.cl r), w.val k, [r]⟩ ([r] ++ b) t hb
      rw [hn, this, hb, cntL]
      rfl
theorem cAll_groups {k : Cell} (ok : k.Ok) (col : Nat) (l : List UInt8) (h : l ≠ []) : cAll k col (runesOf l) = cntL k col ((letters k.cl l).map runesOf) := by
  rw [letters_groups k.cl l h, runesOf_step l h, cAll]
  obtain ⟨b, t, hb⟩ := groups_cons k.cl (runesOf (l.drop (wid l))) (G.first (k.cl (Rp.run l))) [Rp.run l]
  rw [cGo_groups ok _ ⟨G.first (k.cl (Rp.run l)), col, [Rp.run l]⟩ _ t hb, hb, cntL]
  rfl
/-- Blanks in the place of tabs, letter by letter. -/
def plainL (k : Cell) : Nat → List (List UInt8) → List UInt8
  | _, [] => []
  | col, x :: ls => (if x.headD 0 = 9 then List.replicate (behindC (lwT k) enT k.tab col x - col) 32 else x) ++ plainL k (behindC (lwT k) enT k.tab col x) ls
theorem plainL_fB {k : Cell} (ok : k.Ok) : ∀ (ls : List (List UInt8)) (col : Nat), (∀ x ∈ ls, x ≠ []) → (∀ x ∈ ls, x = [9] ∨ 9 ∉ x) → plainL k col ls = fB (cntL k col (ls.map runesOf)) ls.flatten
  | [], _, _, _ => rfl
  | x :: ls, col, h0, h9 => by
    have hx0 := h0 x (by simp)
    have hi := plainL_fB ok ls (behindC (lwT k) enT k.tab col x) (fun y hy => h0 y (by simp [hy])) (fun y hy => h9 y (by simp [hy]))
    rw [plainL, hi, List.map_cons, cntL, List.flatten_cons, behind_runes k col x hx0]
    rcases h9 x (by simp) with rfl | h
    · have hr : runesOf [9] = [9] := by decide
      rw [hr]
      have hb : behindR k col [9] = col - col % k.tab + k.tab := by
        unfold behindR
        rw [if_neg (by decide), if_pos (by rfl)]
      rw [hb, if_pos (by rfl), if_pos (by rfl), List.cons_append, List.nil_append, List.cons_append, List.nil_append, fB, if_pos rfl, List.headD_cons, List.tail_cons]
      congr 2
      have h1 := Nat.mod_le col k.tab
      have h2 := Nat.mod_lt col ok.tab
      omega
    · have hh : x.headD 0 ≠ 9 := by
        cases x with
        | nil => exact absurd rfl hx0
        | cons c x => exact fun e => h (by simp only [List.headD_cons] at e; simp [e])
      have hh2 : (runesOf x).headD 0 ≠ 9 := fun e => hh ((head_tab x hx0).2 e)
      rw [if_neg hh, if_neg hh2, List.nil_append, no9 _ x _ h]
/-- The blanks of a text, letter by letter, are as wide as the text. -/
theorem plainL_eq {k : Cell} (ok : k.Ok) (col : Nat) (l : List UInt8) : plainL k col (letters k.cl l) = fB (cAll k col (runesOf l)) l := by
  by_cases h : l = []
  · subst h
    have : letters k.cl [] = [] := by simp [letters, bounds, pairsOf]
    rw [this]
    rfl
  · rw [plainL_fB ok _ col (letters_ne k.cl l) (letters_tab ok l), cAll_groups ok col l h, letters_flat k.cl l.length l (Nat.le_refl _)]
theorem plainL_text {k : Cell} (ok : k.Ok) (col : Nat) (l : List UInt8) (h6 : ∀ r ∈ runesOf l, k.cl r ≠ 6) :
    textC (lwT k) enT k.tab col (letters k.cl (plainL k col (letters k.cl l))) = textC (lwT k) enT k.tab col (letters k.cl l) := by
  rw [plainL_eq ok]
  exact text_plain ok col l h6
theorem plainL_no9 (k : Cell) : ∀ (ls : List (List UInt8)) (col : Nat), (∀ x ∈ ls, x ≠ []) → (∀ x ∈ ls, x = [9] ∨ 9 ∉ x) → 9 ∉ plainL k col ls
  | [], _, _, _ => by simp [plainL]
  | x :: ls, col, h0, h9 => by
    rw [plainL]
    intro h
    rcases List.mem_append.1 h with h | h
    · split at h
      · have := (List.mem_replicate.1 h).2
        cases this
      · rename_i hh
        rcases h9 x (by simp) with rfl | h2
        · exact hh rfl
        · exact h2 h
    · exact plainL_no9 k ls _ (fun y hy => h0 y (by simp [hy])) (fun y hy => h9 y (by simp [hy])) h
/-- Two beginnings of one list of texts none of which is empty are alike when they hold the same bytes. -/
theorem prefix_flat {α : Type} : ∀ (A B C D : List (List α)), A ++ C = B ++ D → (∀ x ∈ A, x ≠ []) → (∀ x ∈ B, x ≠ []) → A.flatten.length = B.flatten.length → A = B
  | [], [], _, _, _, _, _, _ => rfl
  | [], b :: B, _, _, _, _, hB, h => by
    have := List.length_pos_iff.2 (hB b (by simp))
    simp only [List.flatten_nil, List.flatten_cons, List.length_append, List.length_nil] at h
    omega
  | a :: A, [], _, _, _, hA, _, h => by
    have := List.length_pos_iff.2 (hA a (by simp))
    simp only [List.flatten_nil, List.flatten_cons, List.length_append, List.length_nil] at h
    omega
  | a :: A, b :: B, C, D, e, hA, hB, h => by
    rw [List.cons_append, List.cons_append] at e
    obtain ⟨rfl, e2⟩ := List.cons.inj e
    rw [prefix_flat A B C D e2 (fun x hx => hA x (by simp [hx])) (fun x hx => hB x (by simp [hx])) (by simpa using h)]
/-- The letters at the front, up to a bound, are those of the text cut there. -/
theorem letters_front (cl : Nat → Nat) (s : List UInt8) (i : Nat) {q : Nat} (hq : q ∈ bounds cl s) (hl : q ≤ s.length) (h : ((letters cl s).take i).flatten.length = q) : letters cl (s.take q) = (letters cl s).take i := by
  have hc := letters_cut cl s hq
  refine prefix_flat _ _ (letters cl (s.drop q)) ((letters cl s).drop i) (by rw [List.take_append_drop, ← hc]) (letters_ne cl _) (fun x hx => letters_ne cl s x (List.mem_of_mem_take hx)) ?_
  rw [h, letters_flat cl _ _ (Nat.le_refl _), List.length_take]
  omega
theorem pairs_flat (s : List UInt8) : ∀ (l : List Nat) (a : Nat), (a :: l).Pairwise (· ≤ ·) → (∀ q ∈ a :: l, q ≤ s.length) → ∀ i, i < (pairsOf (a :: l)).length → ∀ p, (pairsOf (a :: l))[i]? = some p → a ≤ p.2 ∧ (((pairsOf (a :: l)).take (i + 1)).map fun p => (s.take p.2).drop p.1).flatten.length = p.2 - a
  | [], a, _, _, i, hi, _, _ => by simp [pairsOf] at hi
  | b :: l, a, hp, hq, i, hi, p, he => by
    have hab : a ≤ b := (List.pairwise_cons.1 hp).1 b (by simp)
    have hb := hq b (by simp)
    cases i with
    | zero =>
      simp only [pairsOf, List.getElem?_cons_zero, Option.some.injEq] at he
      subst he
      refine ⟨hab, ?_⟩
      simp [pairsOf]
      omega
    | succ i =>
      simp only [pairsOf, List.getElem?_cons_succ] at he
      have hi2 : i < (pairsOf (b :: l)).length := by simpa [pairsOf] using hi
      obtain ⟨h1, h2⟩ := pairs_flat s l b (List.pairwise_cons.1 hp).2 (fun q h => hq q (by simp [List.mem_cons.1 h])) i hi2 p he
      refine ⟨by omega, ?_⟩
      simp only [pairsOf, List.take_succ_cons, List.map_cons, List.flatten_cons, List.length_append]
      rw [h2]
      simp only [List.length_drop, List.length_take]
      omega
end Go.Gr
