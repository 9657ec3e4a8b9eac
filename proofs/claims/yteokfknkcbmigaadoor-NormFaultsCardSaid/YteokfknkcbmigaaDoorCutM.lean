/-
  What a form keeps: its faults, plain texts; where a text may be cut.
-/
import Derived.Test.YteokfknkcbmigaaDoorFormM
namespace Go.Nm
open Go.Rp Go.Lib

variable {T : Tb}
/-- The faults of some runes and faults. -/
def fs (l : List (Int × Bool)) : List Int := l.filterMap fun x => if x.2 = true then some x.1 else none
theorem fs_bad (r : Int) (t : List (Int × Bool)) : fs ((r, true) :: t) = r :: fs t := rfl
theorem fs_rune (r : Int) (t : List (Int × Bool)) : fs ((r, false) :: t) = fs t := rfl
theorem fs_append (a b : List (Int × Bool)) : fs (a ++ b) = fs a ++ fs b := by simp [fs]
def fsE (L : List El) : List Int := fs (L.map El.p)
theorem fsE_rune {x : El} (h : x.bad = false) (t : List El) : fsE (x :: t) = fsE t := by
  unfold fsE
  rw [List.map_cons]
  show fs ((x.r, x.bad) :: _) = _
  rw [h]
  rfl
theorem fsE_same (x : El) {t t' : List El} (h : fsE t = fsE t') : fsE (x :: t) = fsE (x :: t') := by
  unfold fsE at *
  rw [List.map_cons, List.map_cons]
  show fs ([x.p] ++ _) = fs ([x.p] ++ _)
  rw [fs_append, fs_append, h]
theorem fsE_many {b t : List El} (h : ∀ y ∈ b, y.bad = false) : fsE (b ++ t) = fsE t := by
  induction b with
  | nil => rfl
  | cons x b ih => rw [List.cons_append, fsE_rune (h x (by simp)), ih fun z hz => h z (by simp [hz])]
theorem fsE_ins {x : El} (hx : x.bad = true → x.ord = 0) : ∀ {L : List El}, (∀ y ∈ L, y.bad = true → y.ord = 0) → fsE (insL x L) = fsE (x :: L)
  | [], _ => rfl
  | y :: t, h => by
    by_cases h1 : 0 < y.ord ∧ y.ord < x.ord
    · have hxb : x.bad = false := by cases e : x.bad with | true => have := hx e; omega | false => rfl
      have hyb : y.bad = false := by cases e : y.bad with | true => have := h y (by simp) e; omega | false => rfl
      have ih := fsE_ins hx (L := t) fun z hz => h z (by simp [hz])
      rw [insL_pass h1, fsE_rune hyb, fsE_rune hxb, fsE_rune hyb, ih, fsE_rune hxb]
    · rw [insL_stop h1]
theorem fsE_sort : ∀ {L : List El}, (∀ y ∈ L, y.bad = true → y.ord = 0) → fsE (sortL L) = fsE L
  | [], _ => rfl
  | x :: t, h => by
    rw [sortL, fsE_ins (h x (by simp)) fun z hz => h z (List.mem_cons_of_mem _ (sortL_mem.1 hz))]
    exact fsE_same x (fsE_sort fun z hz => h z (by simp [hz]))
theorem fsE_els (k : Bool) : ∀ l : List (Int × Bool), fsE (T.els k l) = fs l
  | [] => rfl
  | (r, true) :: t => by
    have e : T.els k ((r, true) :: t) = ⟨r, 0, true⟩ :: T.els k t := rfl
    have ih := fsE_els k t
    rw [e, fs_bad, ← ih]
    rfl
  | (r, false) :: t => by
    have e : T.els k ((r, false) :: t) = (T.fa k r).map T.mk1 ++ T.els k t := rfl
    rw [e, fsE_many (by intro y hy; obtain ⟨z, _, rfl⟩ := List.mem_map.1 hy; rfl), fsE_els k t]
    rfl
theorem fsE_J (jn : Int → Int → Option Int) : ∀ (L : List El) (st : Option (El × List El)), StOk st → fsE (J jn st L) = fsE L := by
  refine J_ind (jn := jn) (P := fun st L => StOk st → fsE (J jn st L) = fsE L) ?_ ?_ ?_ ?_ ?_ ?_ ?_ ?_
  · intro _; rfl
  · intro s b hs
    have := fsE_many (t := []) hs.2
    rw [List.append_nil] at this
    rw [J, fsE_rune hs.1, this]
  · intro x t h ih _
    rw [J, if_pos h]
    exact fsE_same x (ih trivial)
  · intro x t h ih _
    have hs : StOk (some (x, [])) := .start fun e => h (.inl e)
    rw [J, if_neg h, ih hs, fsE_rune hs.1]
  · intro s b x t h ih hs
    rw [J_bad h, fsE_rune hs.1, fsE_many hs.2]
    exact fsE_same x (ih trivial)
  · intro s b x t r h hf hj ih hs
    rw [J_join h hf hj, ih hs, fsE_rune (by simpa using h)]
  · intro s b x t h hf ho ih hs
    rw [J_mark h hf ho, ih (hs.snoc h), fsE_rune (by simpa using h)]
  · intro s b x t h hf ho ih hs
    rw [J_start h hf ho, fsE_rune hs.1, fsE_many hs.2, ih (.start h), fsE_rune (by simpa using h)]
/-- A form has the faults of the text. -/
theorem fs_form (ok : T.Ok) (k c : Bool) (s : List UInt8) : fs (rawOf (T.form k c s)) = fs (rawOf s) := by
  have h0 : fsE (T.E k s) = fs (rawOf s) := by rw [Tb.E, fsE_sort fun y hy => (els_mem ok y hy).zero, fsE_els]
  cases c with
  | false =>
    have hr : rawOf (T.form k false s) = (T.E k s).map El.p := rawOf_out (firm_E ok k s)
    rw [hr]; exact h0
  | true =>
    have hr : rawOf (T.form k true s) = (J T.jn none (T.E k s)).map El.p := rawOf_out ((firm_J ok (T.E k s) none trivial).2 (firm_E ok k s))
    rw [hr]
    exact (fsE_J T.jn (T.E k s) none trivial).trans h0
/-- A plain text. -/
theorem rawOf_plain : ∀ {s : List UInt8}, (∀ c ∈ s, c.toNat < 128) → rawOf s = s.map fun c => ((c.toNat : Int), false)
  | [], _ => rfl
  | c :: t, h => by
    have hc := h c (by simp)
    have hd : dec (c :: t) = (c.toNat, 1) := by
      unfold dec decodeN
      simp only [List.getD_cons_zero, hc, if_true]
    have hr : run (c :: t) = c.toNat := by unfold run; rw [hd]
    have hw : wid (c :: t) = 1 := by unfold wid; rw [hd]
    rw [rawOf_step _ (by simp), hr, hw, if_neg (by omega), List.drop_one, List.tail_cons, rawOf_plain fun z hz => h z (by simp [hz])]
    rfl
theorem els_plain (ok : T.Ok) (k : Bool) : ∀ {s : List UInt8}, (∀ c ∈ s, c.toNat < 128) → T.els k (s.map fun c => ((c.toNat : Int), false)) = s.map fun c => ⟨c.toNat, 0, false⟩
  | [], _ => rfl
  | c :: t, h => by
    have hc := h c (by simp)
    have e : T.els k ((c :: t).map fun c => ((c.toNat : Int), false)) = (T.fa k c.toNat).map T.mk1 ++ T.els k (t.map fun c => ((c.toNat : Int), false)) := rfl
    rw [e, els_plain ok k fun z hz => h z (by simp [hz]), ok.asc k _ (by omega) (by omega)]
    show T.mk1 _ :: _ = _
    unfold Tb.mk1
    rw [ok.ascO _ (by omega) (by omega)]
    rfl
theorem sort_plain : ∀ s : List UInt8, sortL (s.map fun c => (⟨c.toNat, 0, false⟩ : El)) = s.map fun c => ⟨c.toNat, 0, false⟩
  | [] => rfl
  | c :: t => by rw [List.map_cons, sortL_zero rfl, sort_plain t]
theorem J_plain (ok : T.Ok) : ∀ {s : List UInt8}, (∀ c ∈ s, c.toNat < 128) → (J T.jn none (s.map fun c => ⟨c.toNat, 0, false⟩) = s.map fun c => ⟨c.toNat, 0, false⟩) ∧ ∀ z, J T.jn (some (z, [])) (s.map fun c => ⟨c.toNat, 0, false⟩) = z :: s.map fun c => ⟨c.toNat, 0, false⟩
  | [], _ => ⟨rfl, fun z => rfl⟩
  | c :: t, h => by
    have hc := h c (by simp)
    obtain ⟨h1, h2⟩ := J_plain ok (s := t) fun z hz => h z (by simp [hz])
    rw [List.map_cons]
    refine ⟨?_, fun z => ?_⟩
    · rw [J, if_neg (by simp), h2]
    · rw [J_start (by simp) (fun _ => ok.ascJ _ _ (by simp) (by show ((c.toNat : Nat) : Int) < 128; omega)) (by simp), h2]
      rfl
set_option maxRecDepth 100000 in
theorem out_plain : ∀ {s : List UInt8}, (∀ c ∈ s, c.toNat < 128) → out (s.map fun c => ⟨c.toNat, 0, false⟩) = s
  | [], _ => rfl
  | c :: t, h => by
    have hc := h c (by simp)
    have ih := out_plain (s := t) fun z hz => h z (by simp [hz])
    unfold out at *
    rw [List.map_cons, List.map_cons, List.flatMap_cons, ih]
    have e : El.p ⟨(c.toNat : Nat), 0, false⟩ = (((c.toNat : Nat) : Int), false) := rfl
    rw [e, encE_rune]
    unfold encB Utf8.encode
    have hv : Utf8.valid ((c.toNat : Nat) : Int) = true := by
      unfold Utf8.valid
      simp only [Bool.or_eq_true, Bool.and_eq_true, decide_eq_true_eq]
      omega
    simp only [hv, if_true, Int.toNat_natCast, hc]
    simp
theorem form_plain (ok : T.Ok) (k c : Bool) {s : List UInt8} (h : ∀ c ∈ s, c.toNat < 128) : T.form k c s = s := by
  have hE : T.E k s = s.map fun c => ⟨c.toNat, 0, false⟩ := by rw [Tb.E, rawOf_plain h, els_plain ok k h, sort_plain]
  cases c with
  | false => show out (T.E k s) = s; rw [hE, out_plain h]
  | true => show out (J T.jn none (T.E k s)) = s; rw [hE, (J_plain ok h).1, out_plain h]
/-- Before such an element what stands ahead has no part. -/
def Stop (T : Tb) (c : Bool) (z : El) : Prop := z.ord = 0 ∧ (z.bad = true ∨ (c = true → ∀ a, T.jn a z.r = none))
theorem J_skip {jn : Int → Int → Option Int} {x : El} {t : List El} (h : x.bad = true ∨ 0 < x.ord) : J jn none (x :: t) = x :: J jn none t := by rw [J, if_pos h]
theorem J_open {jn : Int → Int → Option Int} {x : El} {t : List El} (h : ¬ (x.bad = true ∨ 0 < x.ord)) : J jn none (x :: t) = J jn (some (x, [])) t := by rw [J, if_neg h]
theorem J_stop {jn : Int → Int → Option Int} {z : El} (hz : z.ord = 0) (hj : z.bad = true ∨ ∀ a, jn a z.r = none) (v : List El) : ∀ (L : List El) (st : Option (El × List El)), J jn st (L ++ z :: v) = J jn st L ++ J jn none (z :: v) := by
  refine J_ind (jn := jn) (P := fun st L => J jn st (L ++ z :: v) = J jn st L ++ J jn none (z :: v)) ?_ ?_ ?_ ?_ ?_ ?_ ?_ ?_
  · rfl
  · intro s b
    rw [List.nil_append]
    by_cases hb : z.bad = true
    · rw [J_bad hb, J, J, if_pos (.inl hb)]
      simp
    · have hj' : ∀ a, jn a z.r = none := hj.resolve_left hb
      rw [J_start hb (fun _ => hj' _) (by omega), J, J, if_neg (by rintro (h | h); exact hb h; omega)]
      simp
  · intro x t h ih
    rw [List.cons_append, J_skip h, ih, J_skip h]
    rfl
  · intro x t h ih
    rw [List.cons_append, J_open h, ih, J_open h]
  · intro s b x t h ih
    rw [List.cons_append, J_bad h, ih, J_bad h]
    simp
  · intro s b x t r h hf hj ih
    rw [List.cons_append, J_join h hf hj, ih, J_join h hf hj]
  · intro s b x t h hf ho ih
    rw [List.cons_append, J_mark h hf ho, ih, J_mark h hf ho]
  · intro s b x t h hf ho ih
    rw [List.cons_append, J_start h hf ho, ih, J_start h hf ho]
    simp
theorem out_append (a b : List El) : out (a ++ b) = out a ++ out b := by simp [out]
theorem els_append (k : Bool) (a b : List (Int × Bool)) : T.els k (a ++ b) = T.els k a ++ T.els k b := by simp [Tb.els]
/-- Cut where it is safe, the forms of both sides are the form. -/
theorem form_cut (k c : Bool) {p q s : List UInt8} (hr : rawOf s = rawOf p ++ rawOf q) (h : ∀ z ∈ (T.els k (rawOf q)).head?, Stop T c z) : T.form k c s = T.form k c p ++ T.form k c q := by
  have hE : T.E k s = T.E k p ++ T.E k q := by
    unfold Tb.E
    rw [hr, els_append]
    cases hq : T.els k (rawOf q) with
    | nil => simp [sortL]
    | cons z v =>
      rw [hq] at h
      rw [sortL_apart (h z (by simp)).1]
  cases c with
  | false =>
    show out (T.E k s) = out (T.E k p) ++ out (T.E k q)
    rw [hE, out_append]
  | true =>
    show out (J T.jn none (T.E k s)) = out (J T.jn none (T.E k p)) ++ out (J T.jn none (T.E k q))
    rw [hE, ← out_append]
    congr 1
    unfold Tb.E
    cases hq : T.els k (rawOf q) with
    | nil => simp [sortL, J]
    | cons z v =>
      rw [hq] at h
      have hz := h z (by simp)
      rw [sortL_zero hz.1]
      exact J_stop hz.1 (hz.2.imp id fun h => h rfl) _ _ none
end Go.Nm
