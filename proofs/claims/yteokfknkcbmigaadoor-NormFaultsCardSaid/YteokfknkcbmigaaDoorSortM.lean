/-
  Plain facts on elements of a text: their order, and what joins.
-/
namespace Go.Nm

/-- A rune and its order; or a fault's byte. -/
structure El where
  r : Int
  ord : Int
  bad : Bool

/-- An element ahead of others in their order. -/
def insL (x : El) : List El → List El
  | [] => [x]
  | y :: t => if 0 < y.ord ∧ y.ord < x.ord then y :: insL x t else x :: y :: t
/-- Elements in their order. -/
def sortL : List El → List El
  | [] => []
  | x :: t => insL x (sortL t)
theorem insL_stop {x y : El} {t : List El} (h : ¬ (0 < y.ord ∧ y.ord < x.ord)) : insL x (y :: t) = x :: y :: t := by rw [insL, if_neg h]
theorem insL_pass {x y : El} {t : List El} (h : 0 < y.ord ∧ y.ord < x.ord) : insL x (y :: t) = y :: insL x t := by rw [insL, if_pos h]
theorem insL_swap {x y : El} (h : 0 < y.ord ∧ y.ord < x.ord) : ∀ L : List El, insL x (insL y L) = insL y (insL x L)
  | [] => by
    rw [insL, insL, insL_pass h, insL, insL_stop (by omega)]
  | z :: t => by
    by_cases h1 : 0 < z.ord ∧ z.ord < y.ord
    · rw [insL_pass h1, insL_pass (show 0 < z.ord ∧ z.ord < x.ord by omega), insL_pass (show 0 < z.ord ∧ z.ord < x.ord by omega), insL_pass h1, insL_swap h t]
    · rw [insL_stop h1, insL_pass h]
      by_cases h2 : 0 < z.ord ∧ z.ord < x.ord
      · rw [insL_pass h2, insL_stop h1]
      · rw [insL_stop h2, insL_stop (show ¬ (0 < x.ord ∧ x.ord < y.ord) by omega)]
theorem sortL_front (u : List El) {a b : List El} (h : sortL a = sortL b) : sortL (u ++ a) = sortL (u ++ b) := by
  induction u with
  | nil => exact h
  | cons x t ih => rw [List.cons_append, List.cons_append, sortL, sortL, ih]
theorem sortL_two {x y : El} (h : 0 < y.ord ∧ y.ord < x.ord) (v : List El) : sortL (x :: y :: v) = sortL (y :: x :: v) := by
  rw [sortL, sortL, sortL, sortL, insL_swap h]
theorem sortL_ins (x : El) (v : List El) : ∀ L : List El, sortL (insL x L ++ v) = sortL (x :: (L ++ v))
  | [] => rfl
  | y :: t => by
    by_cases h : 0 < y.ord ∧ y.ord < x.ord
    · rw [insL_pass h, List.cons_append, sortL, sortL_ins x v t, List.cons_append, sortL_two h]
      rfl
    · rw [insL_stop h]; rfl
theorem sortL_back (v : List El) : ∀ L : List El, sortL (sortL L ++ v) = sortL (L ++ v)
  | [] => rfl
  | x :: t => by
    rw [sortL, sortL_ins, List.cons_append, sortL, sortL_back v t]
    rfl
theorem sortL_idem (L : List El) : sortL (sortL L) = sortL L := by
  have := sortL_back [] L
  simpa using this
theorem sortL_mid (u v : List El) {a b : List El} (h : sortL a = sortL b) : sortL (u ++ (a ++ v)) = sortL (u ++ (b ++ v)) := by
  refine sortL_front u ?_
  rw [← sortL_back v a, ← sortL_back v b, h]
/-- In order. -/
def Srt : List El → Prop
  | [] => True
  | [_] => True
  | x :: y :: t => ¬ (0 < y.ord ∧ y.ord < x.ord) ∧ Srt (y :: t)
theorem Srt.tail {x : El} : ∀ {t : List El}, Srt (x :: t) → Srt t
  | [], _ => trivial
  | _ :: _, h => h.2
theorem Srt.eq : ∀ {L : List El}, Srt L → sortL L = L
  | [], _ => rfl
  | [_], _ => rfl
  | x :: y :: t, h => by
    have h2 : Srt (y :: t) := h.2
    rw [sortL, h2.eq, insL_stop h.1]
theorem insL_srt {x : El} : ∀ {L : List El}, Srt L → Srt (insL x L)
  | [], _ => trivial
  | y :: t, h => by
    by_cases h1 : 0 < y.ord ∧ y.ord < x.ord
    · rw [insL_pass h1]
      have h2 := insL_srt (x := x) h.tail
      cases t with
      | nil => exact ⟨by omega, trivial⟩
      | cons z t =>
        by_cases h3 : 0 < z.ord ∧ z.ord < x.ord
        · rw [insL_pass h3] at h2 ⊢
          exact ⟨h.1, h2⟩
        · rw [insL_stop h3] at h2 ⊢
          exact ⟨by omega, h2⟩
    · rw [insL_stop h1]; exact ⟨h1, h⟩
theorem sortL_srt : ∀ L : List El, Srt (sortL L)
  | [] => trivial
  | _ :: t => insL_srt (sortL_srt t)
theorem insL_len (x : El) : ∀ L : List El, (insL x L).length = L.length + 1
  | [] => rfl
  | y :: t => by rw [insL]; split <;> simp [insL_len x t]
theorem sortL_len : ∀ L : List El, (sortL L).length = L.length
  | [] => rfl
  | x :: t => by rw [sortL, insL_len, sortL_len t]; rfl
theorem insL_mem {x z : El} : ∀ {L : List El}, z ∈ insL x L ↔ z = x ∨ z ∈ L
  | [] => by simp [insL]
  | y :: t => by
    rw [insL]; split
    · rw [List.mem_cons, insL_mem (L := t), List.mem_cons]
      constructor
      · rintro (h | h | h) <;> simp [h]
      · rintro (h | h | h) <;> simp [h]
    · simp
theorem sortL_mem {z : El} : ∀ {L : List El}, z ∈ sortL L ↔ z ∈ L
  | [] => by simp [sortL]
  | x :: t => by rw [sortL, insL_mem, sortL_mem, List.mem_cons]
/-- Where one begins that is of order 0, what stands ahead has no part. -/
theorem insL_zero {x z : El} (hz : z.ord = 0) (v : List El) : ∀ u : List El, insL x (u ++ z :: v) = insL x u ++ z :: v
  | [] => by rw [List.nil_append, insL_stop (by omega)]; rfl
  | y :: t => by
    by_cases h : 0 < y.ord ∧ y.ord < x.ord
    · rw [List.cons_append, insL_pass h, insL_pass h, insL_zero hz v t]; rfl
    · rw [List.cons_append, insL_stop h, insL_stop h]; rfl
theorem sortL_zero {z : El} (hz : z.ord = 0) (v : List El) : sortL (z :: v) = z :: sortL v := by
  rw [sortL]
  cases h : sortL v with
  | nil => rfl
  | cons y t => rw [insL_stop (by omega)]
theorem sortL_apart {z : El} (hz : z.ord = 0) (v : List El) : ∀ u : List El, sortL (u ++ z :: v) = sortL u ++ sortL (z :: v)
  | [] => rfl
  | x :: t => by rw [List.cons_append, sortL, sortL_apart hz v t, sortL_zero hz, insL_zero hz, sortL]
/-- Each element as a list; a mark stays alone. -/
theorem sortL_flat (g : El → List El) : ∀ L : List El, (∀ x ∈ L, 0 < x.ord → ∃ y, g x = [y] ∧ y.ord = x.ord) → sortL ((sortL L).flatMap g) = sortL (L.flatMap g) := by
  have key : ∀ (x : El) (L : List El), (∀ z ∈ x :: L, 0 < z.ord → ∃ y, g z = [y] ∧ y.ord = z.ord) → sortL ((insL x L).flatMap g) = sortL ((x :: L).flatMap g) := by
    intro x L
    induction L with
    | nil => intro _; rfl
    | cons y t ih =>
      intro h
      by_cases h1 : 0 < y.ord ∧ y.ord < x.ord
      · rw [insL_pass h1]
        obtain ⟨x', hx, ox⟩ := h x (by simp) (by omega)
        obtain ⟨y', hy, oy⟩ := h y (by simp) h1.1
        rw [List.flatMap_cons, sortL_front _ (ih fun z hz => h z (by rcases List.mem_cons.1 hz with rfl | hz <;> simp [*])), List.flatMap_cons, List.flatMap_cons, List.flatMap_cons, hx, hy]
        exact (sortL_two (by omega) _).symm
      · rw [insL_stop h1]
  intro L
  induction L with
  | nil => intro _; rfl
  | cons x t ih =>
    intro h
    rw [sortL, key x (sortL t) (fun z hz => h z (by rcases List.mem_cons.1 hz with rfl | hz; simp; exact List.mem_cons_of_mem _ (sortL_mem.1 hz))), List.flatMap_cons, List.flatMap_cons, sortL_front _ (ih fun z hz => h z (List.mem_cons_of_mem _ hz))]
/-- A mark goes ahead of lesser ones. -/
theorem sortL_ahead {x : El} (v : List El) : ∀ b : List El, (∀ y ∈ b, 0 < y.ord ∧ y.ord < x.ord) → sortL (x :: (b ++ v)) = sortL (b ++ x :: v)
  | [], _ => rfl
  | y :: t, h => by
    rw [List.cons_append, sortL_two (h y (by simp)), sortL, sortL_ahead v t (fun z hz => h z (by simp [hz])), List.cons_append, sortL]

/-- May the one join the starter, with those between? -/
def free (b : List El) (x : El) : Bool := match b.getLast? with
  | none => true
  | some y => decide (0 < x.ord ∧ y.ord < x.ord)
/-- Joining: the starter that stands ahead, and the marks behind it. -/
def J (jn : Int → Int → Option Int) : Option (El × List El) → List El → List El
  | none, [] => []
  | some (s, b), [] => s :: b
  | none, x :: t => if x.bad = true ∨ 0 < x.ord then x :: J jn none t else J jn (some (x, [])) t
  | some (s, b), x :: t =>
    if x.bad = true then s :: (b ++ x :: J jn none t) else
    match (if free b x = true then jn s.r x.r else none) with
    | some r => J jn (some ({ s with r := r }, b)) t
    | none => if 0 < x.ord then J jn (some (s, b ++ [x])) t else s :: (b ++ J jn (some (x, [])) t)
theorem J_bad {jn : Int → Int → Option Int} {s x : El} {b t : List El} (h : x.bad = true) : J jn (some (s, b)) (x :: t) = s :: (b ++ x :: J jn none t) := by rw [J, if_pos h]
theorem J_join {jn : Int → Int → Option Int} {s x : El} {b t : List El} {r : Int} (h : ¬ x.bad = true) (hf : free b x = true) (hj : jn s.r x.r = some r) : J jn (some (s, b)) (x :: t) = J jn (some ({ s with r := r }, b)) t := by
  rw [J, if_neg h, if_pos hf, hj]
theorem J_mark {jn : Int → Int → Option Int} {s x : El} {b t : List El} (h : ¬ x.bad = true) (hf : free b x = true → jn s.r x.r = none) (ho : 0 < x.ord) : J jn (some (s, b)) (x :: t) = J jn (some (s, b ++ [x])) t := by
  rw [J, if_neg h]
  have e : (if free b x = true then jn s.r x.r else none) = none := by split; exact hf (by assumption); rfl
  rw [e]
  simp only [if_pos ho]
theorem J_start {jn : Int → Int → Option Int} {s x : El} {b t : List El} (h : ¬ x.bad = true) (hf : free b x = true → jn s.r x.r = none) (ho : ¬ 0 < x.ord) : J jn (some (s, b)) (x :: t) = s :: (b ++ J jn (some (x, [])) t) := by
  rw [J, if_neg h]
  have e : (if free b x = true then jn s.r x.r else none) = none := by split; exact hf (by assumption); rfl
  rw [e]
  simp only [if_neg ho]
/-- What follows from one begin to the next: one rule for each way. -/
theorem J_ind {jn : Int → Int → Option Int} {P : Option (El × List El) → List El → Prop}
    (h0 : P none []) (h1 : ∀ s b, P (some (s, b)) [])
    (h2 : ∀ x t, x.bad = true ∨ 0 < x.ord → P none t → P none (x :: t))
    (h3 : ∀ x t, ¬ (x.bad = true ∨ 0 < x.ord) → P (some (x, [])) t → P none (x :: t))
    (h4 : ∀ s b x t, x.bad = true → P none t → P (some (s, b)) (x :: t))
    (h5 : ∀ s b x t r, ¬ x.bad = true → free b x = true → jn s.r x.r = some r → P (some ({ s with r := r }, b)) t → P (some (s, b)) (x :: t))
    (h6 : ∀ s b x t, ¬ x.bad = true → (free b x = true → jn s.r x.r = none) → 0 < x.ord → P (some (s, b ++ [x])) t → P (some (s, b)) (x :: t))
    (h7 : ∀ s b x t, ¬ x.bad = true → (free b x = true → jn s.r x.r = none) → ¬ 0 < x.ord → P (some (x, [])) t → P (some (s, b)) (x :: t)) : ∀ L st, P st L
  | [], none => h0
  | [], some (s, b) => h1 s b
  | x :: t, none => by
    by_cases h : x.bad = true ∨ 0 < x.ord
    · exact h2 x t h (J_ind h0 h1 h2 h3 h4 h5 h6 h7 t none)
    · exact h3 x t h (J_ind h0 h1 h2 h3 h4 h5 h6 h7 t _)
  | x :: t, some (s, b) => by
    by_cases h : x.bad = true
    · exact h4 s b x t h (J_ind h0 h1 h2 h3 h4 h5 h6 h7 t none)
    · by_cases hf : free b x = true
      · cases hj : jn s.r x.r with
        | some r => exact h5 s b x t r h hf hj (J_ind h0 h1 h2 h3 h4 h5 h6 h7 t _)
        | none =>
          by_cases ho : 0 < x.ord
          · exact h6 s b x t h (fun _ => hj) ho (J_ind h0 h1 h2 h3 h4 h5 h6 h7 t _)
          · exact h7 s b x t h (fun _ => hj) ho (J_ind h0 h1 h2 h3 h4 h5 h6 h7 t _)
      · by_cases ho : 0 < x.ord
        · exact h6 s b x t h (fun e => absurd e hf) ho (J_ind h0 h1 h2 h3 h4 h5 h6 h7 t _)
        · exact h7 s b x t h (fun e => absurd e hf) ho (J_ind h0 h1 h2 h3 h4 h5 h6 h7 t _)
/-- What falls apart canonically, and what is done. -/
structure Fall where
  fa : Int → List Int
  od : Int → Int
  jn : Int → Int → Option Int
  od0 : ∀ r, 0 ≤ od r
  join : ∀ a b r, jn a b = some r → fa r = fa a ++ fa b
/-- An element of a rune. -/
def Fall.mk1 (F : Fall) (r : Int) : El := ⟨r, F.od r, false⟩
def Fall.g (F : Fall) (x : El) : List El := if x.bad = true then [x] else (F.fa x.r).map F.mk1
/-- An element that falls apart no more. -/
def Fall.Done (F : Fall) (x : El) : Prop := (x.bad = true ∧ x.ord = 0) ∨ (x = F.mk1 x.r ∧ F.fa x.r = [x.r])
theorem Fall.Done.g {F : Fall} {x : El} (h : F.Done x) : F.g x = [x] := by
  rcases h with h | h
  · rw [Fall.g, if_pos h.1]
  · rw [Fall.g, if_neg (by rw [h.1]; exact Bool.false_ne_true), h.2]
    show [F.mk1 x.r] = [x]
    rw [← h.1]
theorem Fall.flat_done {F : Fall} : ∀ {L : List El}, (∀ x ∈ L, F.Done x) → L.flatMap F.g = L
  | [], _ => rfl
  | x :: t, h => by rw [List.flatMap_cons, (h x (by simp)).g, Fall.flat_done fun z hz => h z (by simp [hz])]; rfl
/-- In order, all marks: none is above the last. -/
theorem Srt.last : ∀ {b : List El}, Srt b → (∀ y ∈ b, 0 < y.ord) → ∀ {z : El}, b.getLast? = some z → ∀ y ∈ b, y.ord ≤ z.ord
  | [], _, _, _, _, y, hy => by simp at hy
  | [x], _, _, z, hz, y, hy => by simp at hz hy; subst hz; subst hy; exact Int.le_refl _
  | x :: w :: t, h, hp, z, hz, y, hy => by
    rw [List.getLast?_cons_cons] at hz
    have ih := Srt.last (b := w :: t) h.2 (fun y hy => hp y (by simp [hy])) hz
    have h1 : ¬ (0 < w.ord ∧ w.ord < x.ord) := h.1
    have h2 := ih w (by simp)
    have h3 := hp w (by simp)
    rcases List.mem_cons.1 hy with rfl | hy
    · omega
    · exact ih y hy
theorem Srt.left : ∀ {a b : List El}, Srt (a ++ b) → Srt a
  | [], _, _ => trivial
  | [_], _, _ => trivial
  | _ :: y :: t, _, h => ⟨h.1, Srt.left (a := y :: t) h.2⟩
theorem free_all {b t : List El} {x : El} (hs : Srt (b ++ x :: t)) (hp : ∀ y ∈ b, 0 < y.ord) (hf : free b x = true) : ∀ y ∈ b, 0 < y.ord ∧ y.ord < x.ord := by
  intro y hy
  refine ⟨hp y hy, ?_⟩
  unfold free at hf
  split at hf
  · rename_i h
    rw [List.getLast?_eq_none_iff.1 h] at hy
    simp at hy
  · rename_i z hz
    have := hs.left.last hp hz y hy
    have := of_decide_eq_true hf
    omega
/-- What was joined falls apart into what it was. -/
theorem Fall.flat_join (F : Fall) : ∀ (L : List El) (st : Option (El × List El)),
    (match st with
      | none => (∀ x ∈ L, F.Done x) → Srt L → sortL ((J F.jn none L).flatMap F.g) = sortL L
      | some (s, b) => (∀ x ∈ L, F.Done x) → (∀ y ∈ b, F.Done y ∧ 0 < y.ord) → s.bad = false → Srt (b ++ L) → sortL ((J F.jn (some (s, b)) L).flatMap F.g) = sortL (F.g s ++ (b ++ L))) := by
  refine J_ind (jn := F.jn) (P := fun st L => match st with
      | none => (∀ x ∈ L, F.Done x) → Srt L → sortL ((J F.jn none L).flatMap F.g) = sortL L
      | some (s, b) => (∀ x ∈ L, F.Done x) → (∀ y ∈ b, F.Done y ∧ 0 < y.ord) → s.bad = false → Srt (b ++ L) → sortL ((J F.jn (some (s, b)) L).flatMap F.g) = sortL (F.g s ++ (b ++ L))) ?_ ?_ ?_ ?_ ?_ ?_ ?_ ?_
  · intro _ _; rfl
  · intro s b _ hb _ _
    rw [J, List.flatMap_cons, Fall.flat_done fun y hy => (hb y hy).1, List.append_nil]
  · intro x t h ih hd hs
    rw [J, if_pos h, List.flatMap_cons, (hd x (by simp)).g]
    exact sortL_front [x] (ih (fun y hy => hd y (by simp [hy])) hs.tail)
  · intro x t h ih hd hs
    rw [J, if_neg h, ih (fun y hy => hd y (by simp [hy])) (by simp) (by cases hb : x.bad with | true => exact absurd (.inl hb) h | false => rfl) hs.tail, (hd x (by simp)).g]
    rfl
  · intro s b x t h ih hd hb hsb hs
    rw [J_bad h, List.flatMap_cons, List.flatMap_append, List.flatMap_cons, Fall.flat_done fun y hy => (hb y hy).1, (hd x (by simp)).g]
    refine sortL_front _ (sortL_front _ (sortL_front [x] (ih (fun y hy => hd y (by simp [hy])) ?_)))
    have : ∀ {a c : List El}, Srt (a ++ c) → Srt c := by
      intro a c h
      induction a with
      | nil => exact h
      | cons z a ih => exact ih h.tail
    exact (this hs).tail
  · intro s b x t r h hf hj ih hd hb hsb hs
    have hx : F.g x = [x] := (hd x (by simp)).g
    have hall := free_all hs (fun y hy => (hb y hy).2) hf
    have hstay : Srt (b ++ t) := by
      have : ∀ {a : List El}, (∀ y ∈ a, 0 < y.ord ∧ y.ord < x.ord) → Srt (a ++ x :: t) → Srt (a ++ t) := by
        intro a
        induction a with
        | nil => intro _ h; exact h.tail
        | cons z a ih =>
          intro ha h
          have h2 := ih (fun y hy => ha y (by simp [hy])) h.tail
          cases a with
          | nil =>
            cases t with
            | nil => trivial
            | cons u t =>
              have h3 : ¬ (0 < x.ord ∧ x.ord < z.ord) := h.1
              have h4 : ¬ (0 < u.ord ∧ u.ord < x.ord) := h.2.1
              have h5 := ha z (by simp)
              exact ⟨by omega, h2⟩
          | cons y a => exact ⟨h.1, h2⟩
      exact this hall hs
    rw [J_join h hf hj, ih (fun y hy => hd y (by simp [hy])) hb hsb hstay]
    have e : F.g { s with r := r } = F.g s ++ [x] := by
      have e1 : F.g { s with r := r } = (F.fa r).map F.mk1 := by rw [Fall.g, if_neg (by show ¬ s.bad = true; rw [hsb]; exact Bool.false_ne_true)]
      have e2 : F.g s = (F.fa s.r).map F.mk1 := by rw [Fall.g, if_neg (by rw [hsb]; exact Bool.false_ne_true)]
      have e3 : F.g x = (F.fa x.r).map F.mk1 := by rw [Fall.g, if_neg h]
      rw [e1, F.join _ _ _ hj, List.map_append, ← e2, ← e3, hx]
    rw [e, List.append_assoc]
    refine sortL_front _ ?_
    exact sortL_ahead t b hall
  · intro s b x t h hf ho ih hd hb hsb hs
    rw [J_mark h hf ho, ih (fun y hy => hd y (by simp [hy])) ?_ hsb (by simpa using hs)]
    · simp
    · intro y hy
      rcases List.mem_append.1 hy with hy | hy
      · exact hb y hy
      · simp at hy; subst hy; exact ⟨hd _ (by simp), ho⟩
  · intro s b x t h hf ho ih hd hb hsb hs
    have hst : ∀ {a c : List El}, Srt (a ++ c) → Srt c := by
      intro a c h
      induction a with
      | nil => exact h
      | cons z a ih => exact ih h.tail
    rw [J_start h hf ho, List.flatMap_cons, List.flatMap_append, Fall.flat_done fun y hy => (hb y hy).1]
    refine sortL_front _ (sortL_front _ ?_)
    rw [ih (fun y hy => hd y (by simp [hy])) (by simp) (by cases hb : x.bad with | true => exact absurd hb h | false => rfl) (hst hs).tail, (hd x (by simp)).g]
    rfl
end Go.Nm
