/-
  A text in a form.
-/
import Derived.Test.YteokfknkcbmigaaGreatDoorWalkT
namespace Go.Proofs.YteokfknkcbmigaaGreatDoor
open Go.RowKit Go.Rp Go.Shelf Go.Maps Go.Nm

/-- What may be joined and put out. -/
def ElGood (x : El) : Prop := ElOk x ∧ OutOk x
theorem valid_el {r o : Int} (h : Utf8.valid r = true) (ho : 0 ≤ o ∧ o < 256) : ElGood ⟨r, o, false⟩ := by
  have h1 := valid_iff.1 h
  exact ⟨⟨ho, ⟨by show 0 ≤ r; omega, by show r < 16777216; omega⟩, fun h => by cases h⟩, .inr ⟨rfl, h⟩⟩
theorem raw_ok : ∀ (n : Nat) (l : List UInt8), l.length ≤ n → ∀ x ∈ rawOf l, (x.2 = true ∧ 0 ≤ x.1 ∧ x.1 < 256) ∨ (x.2 = false ∧ Utf8.valid x.1 = true)
  | n, [], _, x, hx => by cases hx
  | 0, c :: t, h, _, _ => by simp at h
  | n + 1, c :: t, h, x, hx => by
    rw [rawOf_step _ (by simp)] at hx
    have hw := wid_pos (c :: t)
    rcases List.mem_cons.1 hx with rfl | hx
    · split
      · left
        refine ⟨rfl, by show 0 ≤ (((c :: t).getD 0 0).toNat : Int); omega, ?_⟩
        have := ((c :: t).getD 0 0).toNat_lt
        show (((c :: t).getD 0 0).toNat : Int) < 256
        omega
      · right
        exact ⟨rfl, run_valid _⟩
    · exact raw_ok n _ (by simp only [List.length_drop, List.length_cons] at h ⊢; omega) x hx
theorem raw_len : ∀ (n : Nat) (l : List UInt8), l.length ≤ n → (rawOf l).length ≤ l.length
  | n, [], _ => by simp [rawOf, raw]
  | 0, c :: t, h => by simp at h
  | n + 1, c :: t, h => by
    rw [rawOf_step _ (by simp)]
    have hw := wid_pos (c :: t)
    have h1 := raw_len n ((c :: t).drop (wid (c :: t))) (by simp only [List.length_drop, List.length_cons] at h ⊢; omega)
    simp only [List.length_drop, List.length_cons] at h1 h ⊢
    omega
theorem els_good (k : Bool) (s : List UInt8) : ∀ x ∈ tbT.els k (rawOf s), ElGood x := by
  intro x hx
  obtain ⟨y, hy, hx⟩ := List.mem_flatMap.1 hx
  have h := raw_ok _ s (Nat.le_refl _) y hy
  split at hx
  · rename_i hb
    simp at hx; subst hx
    rcases h with h | h
    · exact ⟨⟨by simp, by simp; omega, fun _ => rfl⟩, .inl ⟨rfl, h.2⟩⟩
    · rw [hb] at h; cases h.1
  · rename_i hb
    obtain ⟨r, hr, rfl⟩ := List.mem_map.1 hx
    rcases h with h | h
    · exact absurd h.1 hb
    · exact valid_el (tbT_ok.val k _ h.2 r hr) (odT_range r)
theorem E_good (k : Bool) (s : List UInt8) : ∀ x ∈ tbT.E k s, ElGood x := fun x hx => els_good k s x (sortL_mem.1 hx)
theorem els_len (k : Bool) (l : List (Int × Bool)) : (tbT.els k l).length ≤ 20 * l.length := by
  induction l with
  | nil => simp [Tb.els]
  | cons x t ih =>
    have e : tbT.els k (x :: t) = (if x.2 = true then [⟨x.1, 0, true⟩] else (tbT.fa k x.1).map tbT.mk1) ++ tbT.els k t := rfl
    rw [e, List.length_append, List.length_cons]
    have : (if x.2 = true then [(⟨x.1, 0, true⟩ : El)] else (tbT.fa k x.1).map tbT.mk1).length ≤ 20 := by
      split
      · simp
      · rw [List.length_map]; exact (faT_len k x.1).2
    omega
theorem E_len (k : Bool) (s : List UInt8) : (tbT.E k s).length ≤ 20 * s.length := by
  have h1 := els_len k (rawOf s)
  have h2 := raw_len _ s (Nat.le_refl _)
  unfold Tb.E
  rw [sortL_len]
  omega
/-- Joining keeps what is true of each, and makes no more. -/
theorem J_keep {P : El → Prop} (hP : ∀ s r a b, P s → ¬ s.bad = true → jnT a b = some r → P { s with r := r }) : ∀ (L : List El) (st : Option (El × List El)), (∀ x ∈ L, P x) → (∀ s b, st = some (s, b) → P s ∧ ¬ s.bad = true ∧ ∀ y ∈ b, P y) → (∀ y ∈ J jnT st L, P y) ∧ (J jnT st L).length ≤ (match st with | none => 0 | some (_, b) => b.length + 1) + L.length
  | [], none, _, _ => by simp [J]
  | [], some (s, b), _, h => by
    have h1 := h s b rfl
    rw [J]
    refine ⟨fun y hy => ?_, by simp⟩
    rcases List.mem_cons.1 hy with rfl | hy
    · exact h1.1
    · exact h1.2.2 y hy
  | x :: t, none, hL, _ => by
    have hx := hL x (by simp)
    have ht : ∀ y ∈ t, P y := fun y hy => hL y (by simp [hy])
    rw [J]
    split
    · have ih := J_keep hP t none ht (fun s b h => by cases h)
      refine ⟨fun y hy => ?_, by have := ih.2; simp only [List.length_cons] at this ⊢; omega⟩
      rcases List.mem_cons.1 hy with rfl | hy
      · exact hx
      · exact ih.1 y hy
    · rename_i hc
      have ih := J_keep hP t (some (x, [])) ht (fun s b h => by cases h; exact ⟨hx, fun h => hc (.inl h), by simp⟩)
      exact ⟨ih.1, by have := ih.2; simp only [List.length_cons, List.length_nil] at this ⊢; omega⟩
  | x :: t, some (s, b), hL, hst => by
    have hx := hL x (by simp)
    have ht : ∀ y ∈ t, P y := fun y hy => hL y (by simp [hy])
    obtain ⟨hs, hsb, hb⟩ := hst s b rfl
    rw [J]
    split
    · have ih := J_keep hP t none ht (fun s b h => by cases h)
      refine ⟨fun y hy => ?_, by have := ih.2; simp only [List.length_cons, List.length_append] at this ⊢; omega⟩
      simp only [List.mem_cons, List.mem_append] at hy
      rcases hy with rfl | hy | rfl | hy
      · exact hs
      · exact hb y hy
      · exact hx
      · exact ih.1 y hy
    · rename_i hxb
      split
      · rename_i r hr
        have hj : jnT s.r x.r = some r := by
          split at hr
          · exact hr
          · cases hr
        have ih := J_keep hP t (some ({ s with r := r }, b)) ht (fun s' b' h => by cases h; exact ⟨hP s r _ _ hs hsb hj, hsb, hb⟩)
        exact ⟨ih.1, by have := ih.2; simp only [List.length_cons] at this ⊢; omega⟩
      · split
        · have ih := J_keep hP t (some (s, b ++ [x])) ht (fun s' b' h => by
            cases h
            refine ⟨hs, hsb, fun y hy => ?_⟩
            rcases List.mem_append.1 hy with hy | hy
            · exact hb y hy
            · simp at hy; subst hy; exact hx)
          exact ⟨ih.1, by have := ih.2; simp only [List.length_cons, List.length_append, List.length_nil] at this ⊢; omega⟩
        · have ih := J_keep hP t (some (x, [])) ht (fun s' b' h => by cases h; exact ⟨hx, hxb, by simp⟩)
          refine ⟨fun y hy => ?_, by have := ih.2; simp only [List.length_cons, List.length_append, List.length_nil] at this ⊢; omega⟩
          simp only [List.mem_cons, List.mem_append] at hy
          rcases hy with rfl | hy | hy
          · exact hs
          · exact hb y hy
          · exact ih.1 y hy
theorem join_good (s : El) (r a b : Int) (h : ElGood s) (hb : ¬ s.bad = true) (hj : jnT a b = some r) : ElGood { s with r := r } := by
  have hv := jnT_valid a b r hj
  have h1 := valid_iff.1 hv
  have hbf : s.bad = false := by simpa using hb
  exact ⟨⟨h.1.1, ⟨by show 0 ≤ r; omega, by show r < 16777216; omega⟩, h.1.2.2⟩, .inr ⟨hbf, hv⟩⟩
theorem JE_good (k : Bool) (s : List UInt8) : (∀ x ∈ J jnT none (tbT.E k s), ElGood x) ∧ (J jnT none (tbT.E k s)).length ≤ 20 * s.length := by
  have h := J_keep join_good (tbT.E k s) none (E_good k s) (fun s b h => by cases h)
  have := E_len k s
  exact ⟨h.1, by have := h.2; simp only at this; omega⟩
set_option maxRecDepth 100000 in
set_option maxHeartbeats 4000000 in
theorem c_form (nb tB : Nat) (s : ByteArray) (f : Int) (w : World) (ht : NTab nb w tB) (hT : Tabs w) (hs : s.size ≤ 1000000) :
    Calls Tryz.prog 35 #[.pointer (some ⟨tB, 0, none⟩), .string s, .int .i64 f] w fun e w' => e = .returned (.string ⟨(tbT.form (decide (f = 2 ∨ f = 3)) (decide (f = 1 ∨ f = 3)) s.data.toList).toArray⟩) ∧ Ext w w' := by
  obtain ⟨k, hk⟩ : ∃ k, decide (f = 2 ∨ f = 3) = k := ⟨_, rfl⟩
  have HK := Lib.hid hk
  rw [hk]
  clear hk
  have hsl : s.data.toList.length ≤ 1000000 := by rw [len_eq]; exact hs
  obtain ⟨c, hc⟩ : ∃ c, decide (f = 1 ∨ f = 3) = c := ⟨_, rfl⟩
  have HC := Lib.hid (show ∀ w, Calls Tryz.prog 55 #[.int .i64 f] w fun e w' => e = .returned (.bool c) ∧ w' = w from fun w => by rw [← hc]; exact c_joining f w)
  have HE := Lib.hid (And.intro (E_good k s.data.toList) (E_len k s.data.toList))
  have HJ := Lib.hid (JE_good k s.data.toList)
  have HS := Lib.hid hsl
  have hrun := c_elements nb tB s f k HK.out w ht hT hs
  rw [hc]
  unfold Tb.form
  obtain ⟨E, hE⟩ : ∃ E, tbT.E k s.data.toList = E := ⟨_, rfl⟩
  rw [hE] at hrun HE HJ ⊢
  have HRUN := Lib.hid hrun
  clear hrun hE hc hsl
  cases c with
  | true =>
    rw [if_pos rfl]
    go_enter Tryz.func35, Tryz.ntmps35
    go_wp2_with fail
    refine HRUN.out.mono ?_
    rintro e w2 ⟨v, rfl, hrow, hx2⟩
    have HR2 := Lib.hid (And.intro hrow hx2)
    clear hrow hx2
    go_wp2_with fail
    refine (HC.out w2).mono ?_
    rintro e w3 ⟨rfl, e3⟩
    obtain rfl := e3.symm
    clear e3
    go_wp2_with fail
    refine (c_joined nb tB E w.heap.size v w2 (ht.ext HR2.out.2) HR2.out.1 (fun x hx => (HE.out.1 x hx).1) (by have := HE.out.2; have := HS.out; omega)).mono ?_
    rintro e w4 ⟨v4, rfl, hrow4, hx4⟩
    have HR4 := Lib.hid (And.intro hrow4 (HR2.out.2.trans hx4))
    clear hrow4 hx4
    go_wp2_with fail
    refine (c_text (J jnT none E) w2.heap.size v4 w4 HR4.out.1 (fun x hx => (HJ.out.1 x hx).2) (by have := HJ.out.2; have := HS.out; omega)).mono ?_
    rintro e w5 ⟨rfl, hx5⟩
    have HX5 := Lib.hid (HR4.out.2.trans hx5)
    clear hx5
    go_wp2_with fail
    go_ret
    exact ⟨rfl, HX5.out⟩
  | false =>
    rw [if_neg (by simp)]
    go_enter Tryz.func35, Tryz.ntmps35
    go_wp2_with fail
    refine HRUN.out.mono ?_
    rintro e w2 ⟨v, rfl, hrow, hx2⟩
    have HR2 := Lib.hid (And.intro hrow hx2)
    clear hrow hx2
    go_wp2_with fail
    refine (HC.out w2).mono ?_
    rintro e w3 ⟨rfl, e3⟩
    obtain rfl := e3.symm
    clear e3
    go_wp2_with fail
    refine (c_text E w.heap.size v w2 HR2.out.1 (fun x hx => (HE.out.1 x hx).2) (by have := HE.out.2; have := HS.out; omega)).mono ?_
    rintro e w5 ⟨rfl, hx5⟩
    have HX5 := Lib.hid (HR2.out.2.trans hx5)
    clear hx5
    go_wp2_with fail
    go_ret
    exact ⟨rfl, HX5.out⟩
/-- A text in a form, as Form tells it. -/
noncomputable def formT (f : Int) (s : List UInt8) : List UInt8 := if 0 ≤ f ∧ f ≤ 3 then tbT.form (decide (f = 2 ∨ f = 3)) (decide (f = 1 ∨ f = 3)) s else s
theorem bytes_back (s : ByteArray) : (⟨s.data.toList.toArray⟩ : ByteArray) = s := rfl
set_option maxRecDepth 100000 in
set_option maxHeartbeats 4000000 in
theorem c_Form (s : ByteArray) (f : Int) (w : World) (hT : Tabs w) (hs : s.size ≤ 1000000) :
    Calls Tryz.prog 11 #[.string s, .int .i64 f] w fun e w' => e = .returned (.string ⟨(formT f s.data.toList).toArray⟩) ∧ Ext w w' := by
  obtain ⟨q, hq⟩ : ∃ q, decide (0 ≤ f ∧ f ≤ 3) = q := ⟨_, rfl⟩
  have HC := Lib.hid (show ∀ w, Calls Tryz.prog 33 #[.int .i64 f] w fun e w' => e = .returned (.bool q) ∧ w' = w from fun w => by rw [← hq]; exact c_right f w)
  unfold formT
  obtain ⟨z, hz⟩ : ∃ z, tbT.form (decide (f = 2 ∨ f = 3)) (decide (f = 1 ∨ f = 3)) s.data.toList = z := ⟨_, rfl⟩
  have HF := Lib.hid (show ∀ nb tB w, NTab nb w tB → Tabs w → Calls Tryz.prog 35 #[.pointer (some ⟨tB, 0, none⟩), .string s, .int .i64 f] w fun e w' => e = .returned (.string ⟨z.toArray⟩) ∧ Ext w w' from fun nb tB w h1 h2 => by rw [← hz]; exact c_form nb tB s f w h1 h2 hs)
  rw [hz]
  clear hz
  cases q with
  | true =>
    rw [if_pos (of_decide_eq_true hq)]
    clear hq
    go_enter Tryz.func11, Tryz.ntmps11
    go_wp2_with fail
    refine (HC.out w).mono ?_
    rintro e w3 ⟨rfl, e3⟩
    obtain rfl := e3.symm
    clear e3
    go_wp2_with fail
    refine (c_load w hT).mono ?_
    rintro e w2 ⟨tB, rfl, ht, hx⟩
    have HT := Lib.hid (And.intro ht hx)
    clear ht hx
    go_wp2_with fail
    refine (HF.out w.heap.size tB w2 HT.out.1 (hT.ext HT.out.2)).mono ?_
    rintro e w5 ⟨rfl, hx5⟩
    have HX5 := Lib.hid (HT.out.2.trans hx5)
    clear hx5
    go_wp2_with fail
    go_ret
    exact ⟨rfl, HX5.out⟩
  | false =>
    rw [if_neg (of_decide_eq_false hq)]
    clear hq
    go_enter Tryz.func11, Tryz.ntmps11
    go_wp2_with fail
    refine (HC.out w).mono ?_
    rintro e w3 ⟨rfl, e3⟩
    obtain rfl := e3.symm
    clear e3
    go_wp2_with fail
    go_ret
    exact ⟨rfl, Ext.refl _⟩
theorem formT_len (f : Int) (s : List UInt8) : (formT f s).length ≤ 80 * s.length := by
  unfold formT
  split
  · unfold Tb.form
    refine Nat.le_trans (out_len _) ?_
    split
    · have : (J tbT.jn none (tbT.E (decide (f = 2 ∨ f = 3)) s)).length ≤ 20 * s.length := (JE_good (decide (f = 2 ∨ f = 3)) s).2
      omega
    · have := E_len (decide (f = 2 ∨ f = 3)) s
      omega
  · omega
set_option maxRecDepth 100000 in
set_option maxHeartbeats 4000000 in
theorem c_Is' (s : ByteArray) (f : Int) (b : Bool) (hb : b = true ↔ formT f s.data.toList = s.data.toList) (w : World) (hT : Tabs w) (hs : s.size ≤ 1000000) :
    Calls Tryz.prog 12 #[.string s, .int .i64 f] w fun e w' => e = .returned (.bool b) ∧ Ext w w' := by
  have HF := Lib.hid (c_Form s f w hT hs)
  obtain ⟨z, hz⟩ : ∃ z, formT f s.data.toList = z := ⟨_, rfl⟩
  rw [hz] at HF hb
  clear hz
  obtain ⟨zs, hzs⟩ : ∃ zs : ByteArray, (⟨z.toArray⟩ : ByteArray) = zs := ⟨_, rfl⟩
  rw [hzs] at HF
  have hq : (zs.toList == s.toList) = b := by
    rw [Bool.eq_iff_iff, hb, beq_iff_eq, ByteArray.toList_eq, ByteArray.toList_eq, ← hzs]
  clear hzs hb
  go_enter Tryz.func12, Tryz.ntmps12
  go_wp2_with fail
  refine HF.out.mono ?_
  rintro e w2 ⟨rfl, hx2⟩
  have HX2 := Lib.hid hx2
  clear hx2
  go_wp2_with fail
  go_ret
  exact ⟨rfl, HX2.out⟩
/-- Where a text may be cut. -/
def SafeT (s : List UInt8) (k f : Int) : Prop := (0 ≤ k ∧ k ≤ (s.length : Nat) ∧ edge s k.toNat) ∧ ((k = 0 ∨ k = (s.length : Nat) ∨ ¬ (0 ≤ f ∧ f ≤ 3)) ∨ (dec (s.drop k.toNat) = (65533, 1)) ∨ firmT f (run (s.drop k.toNat) : Nat) = true)
set_option maxRecDepth 100000 in
set_option maxHeartbeats 4000000 in
theorem c_Safe (s : ByteArray) (k f : Int) (b : Bool) (w : World) (hT : Tabs w) (hs : s.size ≤ 1000000) (hb : b = true ↔ SafeT s.data.toList k f) :
    Calls Tryz.prog 13 #[.string s, .int .i64 k, .int .i64 f] w fun e w' => e = .returned (.bool b) ∧ Ext w w' := by
  have HS := Lib.hid (fun nb tB w' ht hT' => c_safe nb tB s k f b w' ht hT' (by omega) (by rw [hb]; unfold SafeT; rw [len_eq]))
  clear hb
  go_enter Tryz.func13, Tryz.ntmps13
  go_wp2_with fail
  refine (c_load w hT).mono ?_
  rintro e w2 ⟨tB, rfl, ht, hx⟩
  have HT := Lib.hid (And.intro ht hx)
  clear ht hx
  go_wp2_with fail
  refine (HS.out w.heap.size tB w2 HT.out.1 (hT.ext HT.out.2)).mono ?_
  rintro e w5 ⟨rfl, hx5⟩
  have HX5 := Lib.hid (HT.out.2.trans hx5)
  clear hx5
  go_wp2_with fail
  go_ret
  exact ⟨rfl, HX5.out⟩
set_option maxRecDepth 100000 in
set_option maxHeartbeats 4000000 in
theorem c_Order (r : Int) (w : World) (hT : Tabs w) : Calls Tryz.prog 27 #[.int .i32 r] w fun e w' => e = .returned (.int .i64 (odT r)) ∧ Ext w w' := by
  go_enter Tryz.func27, Tryz.ntmps27
  go_wp2_with fail
  refine (c_load w hT).mono ?_
  rintro e w2 ⟨tB, rfl, ht, hx⟩
  have HT := Lib.hid (And.intro ht hx)
  clear ht hx
  go_wp2_with fail
  refine (c_order w.heap.size tB r w2 HT.out.1).mono ?_
  rintro e w5 ⟨rfl, hx5⟩
  have HX5 := Lib.hid (HT.out.2.trans hx5)
  clear hx5
  go_wp2_with fail
  go_ret
  exact ⟨rfl, HX5.out⟩
set_option maxRecDepth 100000 in
set_option maxHeartbeats 4000000 in
theorem c_Join (a b : Int) (w : World) (hT : Tabs w) (ha : 0 ≤ a ∧ a < 16777216) (hb : 0 ≤ b ∧ b < 16777216) : Calls Tryz.prog 25 #[.int .i32 a, .int .i32 b] w fun e w' => e = .returned (.tuple #[.int .i32 ((jnT a b).getD 0), .bool (jnT a b).isSome]) ∧ Ext w w' := by
  have HAB := Lib.hid (And.intro ha hb)
  clear ha hb
  go_enter Tryz.func25, Tryz.ntmps25
  go_wp2_with fail
  refine (c_load w hT).mono ?_
  rintro e w2 ⟨tB, rfl, ht, hx⟩
  have HT := Lib.hid (And.intro ht hx)
  clear ht hx
  go_wp2_with fail
  refine (c_join w.heap.size tB a b w2 HT.out.1 HAB.out.1 HAB.out.2).mono ?_
  rintro e w5 ⟨rfl, hx5⟩
  have HX5 := Lib.hid (HT.out.2.trans hx5)
  clear hx5
  obtain ⟨rj, hrj⟩ : ∃ rj, (jnT a b).getD 0 = rj := ⟨_, rfl⟩
  obtain ⟨oj, hoj⟩ : ∃ oj, (jnT a b).isSome = oj := ⟨_, rfl⟩
  have HRJ := Lib.hid (And.intro hrj hoj)
  rw [hrj, hoj]
  clear hrj hoj
  go_wp2_with fail
  exact ret_two rfl rfl rfl rfl ⟨by rw [HRJ.out.1, HRJ.out.2]; rfl, HX5.out⟩
end Go.Proofs.YteokfknkcbmigaaGreatDoor
