/-
  The forms of a text in plain words, over any tables that are as they should be: a form of a form is a form.
-/
import Derived.Test.YteokfknkcbmigaaDoorSortM
import Derived.Test.YteokfknkcbmigaaDoorTextM
namespace Go.Nm
open Go.Rp Go.Lib

/-- What the tables say: into what a rune falls apart (canonically, loosely), its order, what two join to. -/
structure Tb where
  fa : Bool → Int → List Int
  od : Int → Int
  jn : Int → Int → Option Int
/-- The tables are as they should be. -/
structure Tb.Ok (T : Tb) : Prop where
  od0 : ∀ r, 0 ≤ T.od r
  ne : ∀ k r, T.fa k r ≠ []
  val : ∀ k r, Utf8.valid r = true → ∀ x ∈ T.fa k r, Utf8.valid x = true
  vj : ∀ a b r, T.jn a b = some r → Utf8.valid r = true
  done : ∀ k r, ∀ x ∈ T.fa k r, T.fa k x = [x]
  less : ∀ x, T.fa true x = [x] → T.fa false x = [x]
  twice : ∀ r, T.fa true r = (T.fa false r).flatMap (T.fa true)
  mark : ∀ r, 0 < T.od r → T.fa false r = [r] → T.fa true r = [r]
  join : ∀ a b r, T.jn a b = some r → T.fa false r = T.fa false a ++ T.fa false b
  asc : ∀ k r, 0 ≤ r → r < 128 → T.fa k r = [r]
  ascO : ∀ r, 0 ≤ r → r < 128 → T.od r = 0
  ascJ : ∀ a b, 0 ≤ b → b < 128 → T.jn a b = none

variable {T : Tb}
def Tb.mk1 (T : Tb) (r : Int) : El := ⟨r, T.od r, false⟩
def Tb.g (T : Tb) (k : Bool) (x : El) : List El := if x.bad = true then [x] else (T.fa k x.r).map T.mk1
/-- An element that stays. -/
def Tb.Done (T : Tb) (k : Bool) (x : El) : Prop := (x.bad = true ∧ x.ord = 0) ∨ (x = T.mk1 x.r ∧ T.fa k x.r = [x.r])
theorem Tb.g_bad {k : Bool} {x : El} (h : x.bad = true) : T.g k x = [x] := if_pos h
theorem Tb.g_rune {k : Bool} {x : El} (h : ¬ x.bad = true) : T.g k x = (T.fa k x.r).map T.mk1 := if_neg h
theorem Tb.g_mk {k : Bool} {r : Int} : T.g k (T.mk1 r) = (T.fa k r).map T.mk1 := if_neg Bool.false_ne_true
theorem Tb.Done.flat {k : Bool} {x : El} (h : T.Done k x) : T.g k x = [x] := by
  rcases h with h | h
  · exact Tb.g_bad h.1
  · rw [Tb.g_rune (by rw [h.1]; exact Bool.false_ne_true), h.2]
    show [T.mk1 x.r] = [x]
    rw [← h.1]
theorem Tb.Done.less (ok : T.Ok) {k : Bool} {x : El} (h : T.Done k x) : T.Done false x := by
  rcases h with h | h
  · exact .inl h
  · refine .inr ⟨h.1, ?_⟩
    cases k with
    | false => exact h.2
    | true => exact ok.less _ h.2
theorem Tb.g_done (ok : T.Ok) {k : Bool} {x y : El} (hx : x.bad = true → x.ord = 0) (hy : y ∈ T.g k x) : T.Done k y := by
  by_cases h : x.bad = true
  · rw [Tb.g_bad h, List.mem_singleton] at hy
    subst hy
    exact .inl ⟨h, hx h⟩
  · rw [Tb.g_rune h] at hy
    obtain ⟨r, hr, rfl⟩ := List.mem_map.1 hy
    exact .inr ⟨rfl, ok.done _ _ _ hr⟩
theorem Tb.flat_done {k : Bool} : ∀ {L : List El}, (∀ x ∈ L, T.Done k x) → L.flatMap (T.g k) = L
  | [], _ => rfl
  | x :: t, h => by rw [List.flatMap_cons, (h x (by simp)).flat, Tb.flat_done fun z hz => h z (by simp [hz])]; rfl
theorem Tb.g_twice (ok : T.Ok) (x : El) : T.g true x = (T.g false x).flatMap (T.g true) := by
  by_cases h : x.bad = true
  · rw [Tb.g_bad h, Tb.g_bad h]
    show _ = T.g true x ++ []
    rw [Tb.g_bad h]
    rfl
  · rw [Tb.g_rune h, Tb.g_rune h, ok.twice]
    generalize T.fa false x.r = l
    induction l with
    | nil => rfl
    | cons r t ih => rw [List.flatMap_cons, List.map_append, List.map_cons, List.flatMap_cons, Tb.g_mk, ih]
theorem flat_flat' {α : Type} (h f : α → List El) (g : El → List El) (e : ∀ x, h x = (f x).flatMap g) : ∀ L : List α, L.flatMap h = (L.flatMap f).flatMap g
  | [] => rfl
  | x :: t => by rw [List.flatMap_cons, List.flatMap_cons, List.flatMap_append, e, flat_flat' h f g e t]
theorem flat_flat (f g h : El → List El) (e : ∀ x, h x = (f x).flatMap g) : ∀ L : List El, L.flatMap h = (L.flatMap f).flatMap g
  | [] => rfl
  | x :: t => by rw [List.flatMap_cons, List.flatMap_cons, List.flatMap_append, e, flat_flat f g h e t]
def Tb.Ok.fall (ok : T.Ok) : Fall := ⟨T.fa false, T.od, T.jn, ok.od0, ok.join⟩
/-- A rune or a fault, without its order. -/
def El.p (x : El) : Int × Bool := (x.r, x.bad)
/-- The elements of some runes and faults, fallen apart. -/
def Tb.els (T : Tb) (k : Bool) (l : List (Int × Bool)) : List El := l.flatMap fun x => if x.2 = true then [⟨x.1, 0, true⟩] else (T.fa k x.1).map T.mk1
/-- The elements of a text in their order. -/
def Tb.E (T : Tb) (k : Bool) (s : List UInt8) : List El := sortL (T.els k (rawOf s))
/-- Their bytes. -/
def out (L : List El) : List UInt8 := (L.map El.p).flatMap encE
/-- A text in a form: loose or not, joined or not. -/
def Tb.form (T : Tb) (k c : Bool) (s : List UInt8) : List UInt8 := out (if c = true then J T.jn none (T.E k s) else T.E k s)
theorem els_p {k : Bool} : ∀ {L : List El}, (∀ x ∈ L, x.bad = true → x.ord = 0) → T.els k (L.map El.p) = L.flatMap (T.g k)
  | [], _ => rfl
  | x :: t, h => by
    rw [List.map_cons, Tb.els, List.flatMap_cons, List.flatMap_cons]
    show _ ++ T.els k (t.map El.p) = _
    rw [els_p fun z hz => h z (by simp [hz])]
    congr 1
    by_cases hb : x.bad = true
    · rw [if_pos (show x.p.2 = true from hb), Tb.g_bad hb]
      have := h x (by simp) hb
      cases x
      simp only at this hb
      subst this; subst hb
      rfl
    · rw [if_neg (show ¬ x.p.2 = true from hb), Tb.g_rune hb]
      rfl
theorem els_mem (ok : T.Ok) {k : Bool} {l : List (Int × Bool)} : ∀ x ∈ T.els k l, T.Done k x := by
  intro x hx
  unfold Tb.els at hx
  obtain ⟨y, _, hx⟩ := List.mem_flatMap.1 hx
  by_cases hb : y.2 = true
  · rw [if_pos hb, List.mem_singleton] at hx
    subst hx
    exact .inl ⟨rfl, rfl⟩
  · rw [if_neg hb] at hx
    obtain ⟨r, hr, rfl⟩ := List.mem_map.1 hx
    exact .inr ⟨rfl, ok.done _ _ _ hr⟩
theorem els_twice (ok : T.Ok) (l : List (Int × Bool)) : (T.els false l).flatMap (T.g true) = T.els true l := by
  unfold Tb.els
  refine (flat_flat' _ _ _ (fun x => ?_) l).symm
  by_cases hb : x.2 = true
  · rw [if_pos hb, if_pos hb]
    show _ = T.g true _ ++ []
    rw [Tb.g_bad rfl]
    rfl
  · rw [if_neg hb, if_neg hb]
    have := Tb.g_twice ok (T.mk1 x.1)
    rw [Tb.g_mk, Tb.g_mk] at this
    exact this
theorem Tb.Done.zero {k : Bool} {x : El} (h : T.Done k x) : x.bad = true → x.ord = 0 := by
  intro hb
  rcases h with h | h
  · exact h.2
  · rw [h.1] at hb; cases hb
theorem Tb.Done.alone (ok : T.Ok) {x : El} (h : T.Done false x) (ho : 0 < x.ord) : ∃ y, T.g true x = [y] ∧ y.ord = x.ord := by
  rcases h with h | h
  · omega
  · have h1 : 0 < T.od x.r := by rw [h.1] at ho; exact ho
    refine ⟨x, ?_, rfl⟩
    rw [h.1, Tb.g_mk]
    show (T.fa true x.r).map T.mk1 = _
    rw [ok.mark _ h1 h.2]
    rfl
theorem mem_E (ok : T.Ok) {k : Bool} {s : List UInt8} : ∀ x ∈ T.E k s, T.Done k x := fun x hx => els_mem ok x (sortL_mem.1 hx)
/-- Elements of elements: the looser way stays. -/
theorem sort_again (ok : T.Ok) (k k' : Bool) (s : List UInt8) : sortL ((T.E k s).flatMap (T.g k')) = T.E (k || k') s := by
  cases k with
  | true =>
    have h : ∀ x ∈ T.E true s, T.Done k' x := fun x hx => by
      cases k' with
      | true => exact mem_E ok x hx
      | false => exact (mem_E ok x hx).less ok
    rw [Tb.flat_done h, Tb.E, sortL_idem]
    rfl
  | false =>
    cases k' with
    | false => rw [Tb.flat_done (mem_E ok), Tb.E, sortL_idem]; rfl
    | true =>
      rw [Tb.E, sortL_flat _ _ (fun x hx => (els_mem ok x hx).alone ok), els_twice ok]
      rfl
/-- A starter is no fault, nor is what stands behind it. -/
def StOk : Option (El × List El) → Prop
  | none => True
  | some (s, b) => s.bad = false ∧ ∀ y ∈ b, y.bad = false
theorem StOk.snoc {s x : El} {b : List El} (h : StOk (some (s, b))) (hx : ¬ x.bad = true) : StOk (some (s, b ++ [x])) := by
  refine ⟨h.1, fun y hy => ?_⟩
  rcases List.mem_append.1 hy with hy | hy
  · exact h.2 y hy
  · rw [List.mem_singleton] at hy
    subst hy
    simpa using hx
theorem StOk.start {x : El} (hx : ¬ x.bad = true) : StOk (some (x, [])) := ⟨by simpa using hx, by simp⟩
theorem J_ord {jn : Int → Int → Option Int} : ∀ (L : List El) (st : Option (El × List El)), (∀ x ∈ L, x.bad = true → x.ord = 0) → StOk st → ∀ x ∈ J jn st L, x.bad = true → x.ord = 0 := by
  refine J_ind (jn := jn) (P := fun st L => (∀ x ∈ L, x.bad = true → x.ord = 0) → StOk st → ∀ x ∈ J jn st L, x.bad = true → x.ord = 0) ?_ ?_ ?_ ?_ ?_ ?_ ?_ ?_
  · intro _ _ x hx; simp [J] at hx
  · intro s b _ hs x hx hb
    rw [J] at hx
    rcases List.mem_cons.1 hx with rfl | hx
    · rw [hs.1] at hb; cases hb
    · rw [hs.2 x hx] at hb; cases hb
  · intro x t h ih hL _ y hy hb
    rw [J, if_pos h] at hy
    rcases List.mem_cons.1 hy with rfl | hy
    · exact hL y (by simp) hb
    · exact ih (fun z hz => hL z (List.mem_cons_of_mem _ hz)) trivial y hy hb
  · intro x t h ih hL _ y hy hb
    rw [J, if_neg h] at hy
    exact ih (fun z hz => hL z (List.mem_cons_of_mem _ hz)) (.start fun e => h (.inl e)) y hy hb
  · intro s b x t h ih hL hs y hy hb
    rw [J_bad h] at hy
    rcases List.mem_cons.1 hy with rfl | hy
    · rw [hs.1] at hb; cases hb
    rcases List.mem_append.1 hy with hy | hy
    · rw [hs.2 y hy] at hb; cases hb
    rcases List.mem_cons.1 hy with rfl | hy
    · exact hL y (by simp) hb
    · exact ih (fun z hz => hL z (List.mem_cons_of_mem _ hz)) trivial y hy hb
  · intro s b x t r h hf hj ih hL hs y hy hb
    rw [J_join h hf hj] at hy
    exact ih (fun z hz => hL z (List.mem_cons_of_mem _ hz)) hs y hy hb
  · intro s b x t h hf ho ih hL hs y hy hb
    rw [J_mark h hf ho] at hy
    exact ih (fun z hz => hL z (List.mem_cons_of_mem _ hz)) (hs.snoc h) y hy hb
  · intro s b x t h hf ho ih hL hs y hy hb
    rw [J_start h hf ho] at hy
    rcases List.mem_cons.1 hy with rfl | hy
    · rw [hs.1] at hb; cases hb
    rcases List.mem_append.1 hy with hy | hy
    · rw [hs.2 y hy] at hb; cases hb
    · exact ih (fun z hz => hL z (List.mem_cons_of_mem _ hz)) (.start h) y hy hb
/-- The same, joined ahead. -/
theorem join_again (ok : T.Ok) (k k' : Bool) (s : List UInt8) : sortL ((J T.jn none (T.E k s)).flatMap (T.g k')) = T.E (k || k') s := by
  have h0 : sortL ((J T.jn none (T.E k s)).flatMap (T.g false)) = T.E k s := by
    have := ok.fall.flat_join (T.E k s) none (fun x hx => (mem_E ok x hx).less ok) (sortL_srt _)
    rw [Tb.E, sortL_idem] at this
    exact this
  cases k' with
  | false => rw [h0, Bool.or_false]
  | true =>
    rw [flat_flat (T.g false) (T.g true) (T.g true) (Tb.g_twice ok)]
    refine (sortL_flat _ _ fun x hx ho => ?_).symm.trans (by rw [h0, sort_again ok k true s])
    obtain ⟨y, hy, hx⟩ := List.mem_flatMap.1 hx
    exact (Tb.g_done ok (J_ord (T.E k s) none (fun z hz => (mem_E ok z hz).zero) trivial y hy) hx).alone ok ho
/-- What is made of elements reads as they stand. -/
def FirmE (L : List El) : Prop := Firm (L.map El.p)
theorem badPre_rune {x : El} (h : x.bad = false) (t : List El) : badPre ((x :: t).map El.p) = [] := by
  rw [List.map_cons, badPre, if_neg (by show ¬ x.bad = true; rw [h]; exact Bool.false_ne_true)]
theorem firm_rune {x : El} (h : x.bad = false) (t : List El) : FirmE (x :: t) ↔ Utf8.valid x.r = true ∧ FirmE t := by
  unfold FirmE
  rw [List.map_cons, Firm, if_neg (by show ¬ x.bad = true; rw [h]; exact Bool.false_ne_true)]
  rfl
theorem firm_same {x : El} {t t' : List El} (hb : badPre (t.map El.p) = badPre (t'.map El.p)) (ht : FirmE t → FirmE t') : FirmE (x :: t) → FirmE (x :: t') := by
  unfold FirmE at *
  rw [List.map_cons, List.map_cons, Firm, Firm, hb]
  exact fun ⟨h1, h2⟩ => ⟨h1, ht h2⟩
theorem badPre_same {x : El} {t t' : List El} (hb : badPre (t.map El.p) = badPre (t'.map El.p)) : badPre ((x :: t).map El.p) = badPre ((x :: t').map El.p) := by
  rw [List.map_cons, List.map_cons, badPre, badPre, hb]
theorem firm_ins {x : El} (hx : x.bad = true → x.ord = 0) : ∀ {L : List El}, (∀ y ∈ L, y.bad = true → y.ord = 0) → badPre ((x :: L).map El.p) = badPre ((insL x L).map El.p) ∧ (FirmE (x :: L) → FirmE (insL x L))
  | [], _ => ⟨rfl, id⟩
  | y :: t, h => by
    by_cases h1 : 0 < y.ord ∧ y.ord < x.ord
    · have hxb : x.bad = false := by cases e : x.bad with | true => have := hx e; omega | false => rfl
      have hyb : y.bad = false := by cases e : y.bad with | true => have := h y (by simp) e; omega | false => rfl
      have ih := firm_ins hx (L := t) fun z hz => h z (by simp [hz])
      rw [insL_pass h1, badPre_rune hxb, badPre_rune hyb, firm_rune hxb, firm_rune hyb, firm_rune hyb]
      refine ⟨rfl, fun ⟨a, b, c⟩ => ⟨b, ih.2 ?_⟩⟩
      rw [firm_rune hxb]
      exact ⟨a, c⟩
    · rw [insL_stop h1]; exact ⟨rfl, id⟩
theorem firm_sort : ∀ {L : List El}, (∀ y ∈ L, y.bad = true → y.ord = 0) → badPre (L.map El.p) = badPre ((sortL L).map El.p) ∧ (FirmE L → FirmE (sortL L))
  | [], _ => ⟨rfl, id⟩
  | x :: t, h => by
    obtain ⟨h1, h2⟩ := firm_sort (L := t) fun z hz => h z (by simp [hz])
    obtain ⟨h3, h4⟩ := firm_ins (x := x) (h x (by simp)) (L := sortL t) fun z hz => h z (List.mem_cons_of_mem _ (sortL_mem.1 hz))
    exact ⟨(badPre_same h1).trans h3, fun hf => h4 (firm_same h1 h2 hf)⟩
theorem firm_runes {l : List Int} (h : ∀ r ∈ l, Utf8.valid r = true) {t : List El} (ht : FirmE t) : FirmE (l.map T.mk1 ++ t) := by
  induction l with
  | nil => exact ht
  | cons r l ih =>
    rw [List.map_cons, List.cons_append, firm_rune rfl]
    exact ⟨h r (by simp), ih fun z hz => h z (by simp [hz])⟩
theorem firm_els (ok : T.Ok) (k : Bool) : ∀ {l : List (Int × Bool)}, Firm l → badPre ((T.els k l).map El.p) = badPre l ∧ FirmE (T.els k l)
  | [], _ => ⟨rfl, trivial⟩
  | (r, true) :: t, h => by
    obtain ⟨h1, h2⟩ := firm_els ok k (l := t) h.2
    have e : T.els k ((r, true) :: t) = ⟨r, 0, true⟩ :: T.els k t := rfl
    rw [e]
    unfold FirmE
    rw [List.map_cons]
    show badPre ((r, true) :: _) = _ ∧ Firm ((r, true) :: _)
    rw [badPre, badPre, Firm, h1]
    have h3 := h.1
    exact ⟨rfl, h3, h2⟩
  | (r, false) :: t, h => by
    obtain ⟨h1, h2⟩ := firm_els ok k (l := t) h.2
    have e : T.els k ((r, false) :: t) = (T.fa k r).map T.mk1 ++ T.els k t := rfl
    have hv : Utf8.valid r = true := by simpa using h.1
    rw [e]
    refine ⟨?_, firm_runes (ok.val k r hv) h2⟩
    obtain ⟨a, l, hl⟩ : ∃ a l, T.fa k r = a :: l := by
      cases h5 : T.fa k r with
      | nil => exact absurd h5 (ok.ne k r)
      | cons a l => exact ⟨a, l, rfl⟩
    rw [hl, List.map_cons, List.cons_append, badPre_rune rfl, badPre, if_neg (by simp)]
theorem firm_E (ok : T.Ok) (k : Bool) (s : List UInt8) : FirmE (T.E k s) :=
  (firm_sort fun y hy => (els_mem ok y hy).zero).2 (firm_els ok k (firm_text s)).2
theorem firm_many {b t : List El} (hb : ∀ y ∈ b, y.bad = false) : FirmE (b ++ t) ↔ (∀ y ∈ b, Utf8.valid y.r = true) ∧ FirmE t := by
  induction b with
  | nil => simp
  | cons x b ih =>
    rw [List.cons_append, firm_rune (hb x (by simp)), ih fun z hz => hb z (by simp [hz])]
    simp [and_assoc]
theorem firm_J (ok : T.Ok) : ∀ (L : List El) (st : Option (El × List El)), StOk st →
    (match st with
      | none => badPre (L.map El.p) = badPre ((J T.jn none L).map El.p) ∧ (FirmE L → FirmE (J T.jn none L))
      | some (s, b) => badPre ((J T.jn (some (s, b)) L).map El.p) = [] ∧ (FirmE (s :: (b ++ L)) → FirmE (J T.jn (some (s, b)) L))) := by
  refine J_ind (jn := T.jn) (P := fun st L => StOk st →
    (match st with
      | none => badPre (L.map El.p) = badPre ((J T.jn none L).map El.p) ∧ (FirmE L → FirmE (J T.jn none L))
      | some (s, b) => badPre ((J T.jn (some (s, b)) L).map El.p) = [] ∧ (FirmE (s :: (b ++ L)) → FirmE (J T.jn (some (s, b)) L)))) ?_ ?_ ?_ ?_ ?_ ?_ ?_ ?_
  · intro _; exact ⟨rfl, id⟩
  · intro s b hs
    rw [J]
    exact ⟨badPre_rune hs.1 _, by rw [List.append_nil]; exact id⟩
  · intro x t h ih _
    obtain ⟨h1, h2⟩ := ih trivial
    show _ ∧ _
    rw [J, if_pos h]
    exact ⟨badPre_same h1, firm_same h1 h2⟩
  · intro x t h ih _
    have hs : StOk (some (x, [])) := .start fun e => h (.inl e)
    obtain ⟨h1, h2⟩ := ih hs
    show _ ∧ _
    rw [J, if_neg h, h1, badPre_rune hs.1]
    exact ⟨rfl, h2⟩
  · intro s b x t h ih hs
    obtain ⟨h1, h2⟩ := ih trivial
    show _ ∧ _
    rw [J_bad h]
    refine ⟨badPre_rune hs.1 _, fun hf => ?_⟩
    rw [firm_rune hs.1, firm_many hs.2] at hf ⊢
    exact ⟨hf.1, hf.2.1, firm_same h1 h2 hf.2.2⟩
  · intro s b x t r h hf hj ih hs
    obtain ⟨h1, h2⟩ := ih hs
    show _ ∧ _
    rw [J_join h hf hj]
    refine ⟨h1, fun hf => h2 ?_⟩
    rw [firm_rune hs.1, firm_many hs.2, firm_rune (by simpa using h)] at hf
    rw [firm_rune (x := ⟨r, s.ord, s.bad⟩) hs.1, firm_many hs.2]
    exact ⟨ok.vj _ _ _ hj, hf.2.1, hf.2.2.2⟩
  · intro s b x t h hf ho ih hs
    obtain ⟨h1, h2⟩ := ih (hs.snoc h)
    show _ ∧ _
    rw [J_mark h hf ho]
    exact ⟨h1, by simpa using h2⟩
  · intro s b x t h hf ho ih hs
    obtain ⟨h1, h2⟩ := ih (.start h)
    show _ ∧ _
    rw [J_start h hf ho]
    refine ⟨badPre_rune hs.1 _, fun hf => ?_⟩
    rw [firm_rune hs.1, firm_many hs.2] at hf ⊢
    exact ⟨hf.1, hf.2.1, h2 hf.2.2⟩
/-- What a form has for elements. -/
theorem E_form (ok : T.Ok) (k c k' : Bool) (s : List UInt8) : T.E k' (T.form k c s) = T.E (k || k') s := by
  cases c with
  | false =>
    have hr : rawOf (T.form k false s) = (T.E k s).map El.p := rawOf_out (firm_E ok k s)
    rw [Tb.E, hr, els_p fun x hx => (mem_E ok x hx).zero, sort_again ok]
  | true =>
    have hr : rawOf (T.form k true s) = (J T.jn none (T.E k s)).map El.p := rawOf_out ((firm_J ok (T.E k s) none trivial).2 (firm_E ok k s))
    rw [Tb.E, hr, els_p (J_ord (T.E k s) none (fun z hz => (mem_E ok z hz).zero) trivial), join_again ok]
/-- A form of a form is a form. -/
theorem form_form (ok : T.Ok) (k c k' c' : Bool) (s : List UInt8) : T.form k' c' (T.form k c s) = T.form (k || k') c' s := by
  show out _ = out _
  rw [E_form ok]
/-- Equal forms have equal elements. -/
theorem E_of_form (ok : T.Ok) {k c : Bool} {s s' : List UInt8} (h : T.form k c s = T.form k c s') : T.E k s = T.E k s' := by
  have h1 := E_form ok k c k s
  have h2 := E_form ok k c k s'
  rw [h, Bool.or_self] at h1
  rw [Bool.or_self] at h2
  exact h1.symm.trans h2
theorem form_eq_iff (ok : T.Ok) {k c : Bool} {s s' : List UInt8} : T.form k c s = T.form k c s' ↔ T.E k s = T.E k s' := ⟨E_of_form ok, fun h => by show out _ = out _; rw [h]⟩
/-- Looser is the same where stricter is. -/
theorem E_loose (ok : T.Ok) {s s' : List UInt8} (h : T.E false s = T.E false s') : T.E true s = T.E true s' := by
  have h1 := sort_again ok false true s
  have h2 := sort_again ok false true s'
  rw [h] at h1
  exact h1.symm.trans h2
end Go.Nm
