/-
  What TableOrder leans on: orders of ranges, runs as ranges, all numbers counted.
-/
import Derived.Test.YtbbemipidkhmfaaOwn
namespace Go.Proofs.Ytbbemipidkhmfaa
open Go.RowKit Go.Maps Go.Shelf

theorem checkGo_zero : ∀ (t pre : List Rng) (i : Nat), Apart (pre ++ t) → (∀ x ∈ t, Ok1 x) → checkGo pre t i = (0, 0)
  | [], _, _, _, _ => rfl
  | x :: t, pre, i, ha, ho => by
    have h1 : okR x = true := okR_iff.2 (ho x (by simp))
    have h2 : pre.any (hits x) = false := by
      rw [List.any_eq_false]
      intro y hy
      have := (List.pairwise_append.1 ha).2.2 y hy x (by simp)
      simp [hits_symm this]
    rw [checkGo, if_neg (by simp [h1]), if_neg (by simp [h2])]
    exact checkGo_zero t (pre ++ [x]) (i + 1) (by simpa using ha) fun y hy => ho y (by simp [hy])
theorem checkOf_zero {l : List Rng} {rest : Int} (hr : 0 ≤ rest ∧ rest ≤ 255) (hl : l.length ≤ 4096) (ha : Apart l) (ho : ∀ x ∈ l, Ok1 x) : checkOf l rest = (0, 0) := by
  rw [checkOf, if_neg (by simp [isCls, hr]), if_neg (by omega)]
  exact checkGo_zero l [] 0 (by simpa using ha) ho
theorem checkOf_perm {l m : List Rng} {rest : Int} (hp : m.Perm l) (h : (checkOf l rest).1 = 0) : checkOf m rest = (0, 0) := by
  obtain ⟨hr, hl, ha, ho⟩ := checkOf_ok h
  exact checkOf_zero hr (by rw [hp.length_eq]; exact hl) ((hp.pairwise_iff fun h => hits_symm h).2 ha) fun x hx => ho x (hp.mem_iff.1 hx)
theorem RunsFrom.congr {f g : Int → Int} : ∀ {l : List Rng} {s e : Int}, RunsFrom f s e l → (∀ r, s ≤ r → r < e → f r = g r) → RunsFrom g s e l
  | [], _, _, h, _ => h
  | x :: t, s, e, ⟨a1, a2, a3, a4, a5⟩, hfg => by
    have hle := a5.le
    exact ⟨a1, a2, fun r h1 h2 => (hfg r (by omega) (by omega)).symm.trans (a3 r h1 h2), a4, a5.congr fun r h1 h2 => hfg r (by omega) h2⟩
theorem RunsFrom.cover {f : Int → Int} : ∀ {l : List Rng} {s e : Int}, RunsFrom f s e l → ∀ r, s ≤ r → r < e → ∃ x ∈ l, x.lo ≤ r ∧ r ≤ x.hi
  | [], s, e, h, r, h1, h2 => by rw [RunsFrom] at h; omega
  | x :: t, s, e, ⟨a1, a2, a3, a4, a5⟩, r, h1, h2 => by
    by_cases hr : r ≤ x.hi
    · exact ⟨x, by simp, by omega, hr⟩
    · obtain ⟨y, hy, g⟩ := a5.cover r (by omega) h2
      exact ⟨y, by simp [hy], g⟩
theorem RunsFrom.val {f : Int → Int} : ∀ {l : List Rng} {s e : Int}, RunsFrom f s e l → ∀ x ∈ l, s ≤ x.lo ∧ x.lo ≤ x.hi ∧ x.hi < e ∧ ∀ r, x.lo ≤ r → r ≤ x.hi → f r = x.cl
  | x :: t, s, e, ⟨a1, a2, a3, a4, a5⟩, y, hy => by
    have hle := a5.le
    rcases List.mem_cons.1 hy with rfl | hy
    · exact ⟨by omega, a2, by omega, a3⟩
    · obtain ⟨b1, b2, b3, b4⟩ := a5.val y hy
      exact ⟨by omega, b2, b3, b4⟩
/-- A run's class differs from what lies ahead of it. -/
theorem RunsFrom.prev {f : Int → Int} : ∀ {l : List Rng} {s e : Int}, RunsFrom f s e l → ∀ y ∈ l, s < y.lo → f (y.lo - 1) ≠ y.cl
  | [x], s, e, ⟨a1, a2, a3, a4, a5⟩, y, hy, hs => by
    simp at hy
    subst hy
    omega
  | x :: z :: t, s, e, ⟨a1, a2, a3, a4, a5⟩, y, hy, hs => by
    rcases List.mem_cons.1 hy with rfl | hy
    · omega
    · by_cases hh : x.hi + 1 < y.lo
      · exact a5.prev y hy hh
      · have hz := a5.1
        have hlo := (a5.val y hy).1
        have hyz : y = z := by
          rcases List.mem_cons.1 hy with rfl | hy
          · rfl
          · have := (a5.2.2.2.2.val y hy).1
            have := a5.2.1
            omega
        subst hyz
        rw [show y.lo - 1 = x.hi from by omega, a3 x.hi a2 (Int.le_refl _)]
        exact fun e => a4 y rfl e.symm
theorem rise_apart : ∀ {l : List Rng}, Rise l → Apart l
  | [], _ => List.Pairwise.nil
  | x :: t, ⟨h1, h2, h3⟩ => by
    refine List.pairwise_cons.2 ⟨fun y hy => ?_, rise_apart h3⟩
    have := h2 y hy
    simp only [hits, Bool.and_eq_false_iff, decide_eq_false_iff_not]
    left
    omega
/-- The runs that are not the rest's tell the same function. -/
theorem cls_runs {f : Int → Int} {rest : Int} {L : List Rng} (hf : ∀ r, 0 ≤ r → r ≤ 1114111 → 0 ≤ f r ∧ f r ≤ 255) (h : RunsFrom f 0 1114112 L) : ∀ r, 0 ≤ r → r < 1114112 → clsOf (L.filter (fun x => !(x.cl == rest))) rest r = f r := by
  intro r h0 h1
  have hap := rise_apart ((h.asc (fun x => !(x.cl == rest)) hf (by omega)).rise (by omega)).1
  obtain ⟨x, hx, h2, h3⟩ := h.cover r h0 h1
  have hv := (h.val x hx).2.2.2 r h2 h3
  by_cases hc : x.cl = rest
  · rw [clsOf_none, hv, hc]
    intro y hy hh
    obtain ⟨hy1, hy2⟩ := List.mem_filter.1 hy
    have := (h.val y hy1).2.2.2 r hh.1 hh.2
    rw [hv, hc] at this
    simp [← this] at hy2
  · rw [clsOf_mem hap (List.mem_filter.2 ⟨hx, by simp [hc]⟩) h2 h3, hv]
theorem asc_lt {p : Int} : ∀ {l : List Rng}, Asc p l → (l.map (·.lo)).Nodup ∧ ∀ x ∈ l, p ≤ x.lo
  | [], _ => ⟨List.nodup_nil, by simp⟩
  | x :: t, ⟨h1, h2, h3, h4, h5, h6⟩ => by
    obtain ⟨i1, i2⟩ := asc_lt h6
    refine ⟨List.nodup_cons.2 ⟨fun hm => ?_, i1⟩, fun y hy => ?_⟩
    · obtain ⟨y, hy, e⟩ := List.mem_map.1 hm
      have := i2 y hy
      have e' : y.lo = x.lo := e
      omega
    · rcases List.mem_cons.1 hy with rfl | hy
      · exact h1
      · have := i2 y hy; omega
/-- There are no more of them than ranges that were handed in. -/
theorem runs_length {l L : List Rng} {rest : Int} (ha : Apart l) (ho : ∀ x ∈ l, Ok1 x) (hr : 0 ≤ rest ∧ rest ≤ 255) (h : RunsFrom (clsOf l rest) 0 1114112 L) : (L.filter (fun x => !(x.cl == rest))).length ≤ l.length := by
  have hf : ∀ r, 0 ≤ r → r ≤ 1114111 → 0 ≤ clsOf l rest r ∧ clsOf l rest r ≤ 255 := fun r _ _ => clsOf_range ho hr.1 hr.2
  have hasc := h.asc (fun x => !(x.cl == rest)) hf (by omega)
  have hsub : (L.filter (fun x => !(x.cl == rest))).map (·.lo) ⊆ l.map (·.lo) := by
    intro q hq
    obtain ⟨y, hy, rfl⟩ := List.mem_map.1 hq
    obtain ⟨hy1, hy2⟩ := List.mem_filter.1 hy
    obtain ⟨v1, v2, v3, v4⟩ := h.val y hy1
    have hne : y.cl ≠ rest := by simpa using hy2
    have hv := v4 y.lo (Int.le_refl _) v2
    obtain ⟨x, hx, g1, g2⟩ : ∃ x ∈ l, x.lo ≤ y.lo ∧ y.lo ≤ x.hi := by
      refine Classical.byContradiction fun hn => ?_
      rw [clsOf_none fun x hx hh => hn ⟨x, hx, hh⟩] at hv
      exact hne hv.symm
    have hxc := clsOf_mem (rest := rest) ha hx g1 g2
    have : x.lo = y.lo := by
      by_cases hlt : x.lo < y.lo
      · exfalso
        have h0 := (ho x hx).1
        have := h.prev y hy1 (by omega)
        rw [clsOf_mem (rest := rest) ha hx (by omega) (by omega)] at this
        exact this (hxc.symm.trans hv)
      · omega
    exact List.mem_map.2 ⟨x, hx, this⟩
  have := (asc_lt hasc).1.length_le_of_subset hsub
  simpa using this
/-- A sum. -/
def sumN (g : Nat → Nat) : Nat → Nat
  | 0 => 0
  | n + 1 => sumN g n + g n
theorem sumN_add (g h : Nat → Nat) : ∀ n, sumN (fun c => g c + h c) n = sumN g n + sumN h n
  | 0 => rfl
  | n + 1 => by rw [sumN, sumN, sumN, sumN_add g h n]; omega
theorem sumN_congr {g h : Nat → Nat} : ∀ n, (∀ c, c < n → g c = h c) → sumN g n = sumN h n
  | 0, _ => rfl
  | n + 1, e => by rw [sumN, sumN, sumN_congr n (fun c hc => e c (by omega)), e n (by omega)]
theorem sumN_ind (d : Int) : ∀ n, sumN (fun c => if d = (c : Int) then 1 else 0) n = if 0 ≤ d ∧ d < (n : Int) then 1 else 0
  | 0 => by rw [sumN, if_neg (by omega)]
  | n + 1 => by
    rw [sumN, sumN_ind d n]
    by_cases h : d = (n : Int)
    · rw [if_neg (by omega), if_pos h, if_pos (by omega)]
    · rw [if_neg h]
      by_cases h2 : 0 ≤ d ∧ d < (n : Int)
      · rw [if_pos h2, if_pos (by omega)]
      · rw [if_neg h2, if_neg (by omega)]
theorem sumN_zero : ∀ n, sumN (fun _ => 0) n = 0
  | 0 => rfl
  | n + 1 => by rw [sumN, sumN_zero n]
theorem sum_cnt {f : Int → Int} : ∀ (k : Nat), (∀ r, 0 ≤ r → r < (k : Int) → 0 ≤ f r ∧ f r ≤ 255) → sumN (fun c => cntF f c 0 k) 256 = k
  | 0, _ => by
    rw [sumN_congr (h := fun _ => 0) 256 (fun c _ => by simp [cntF]), sumN_zero]
  | k + 1, h => by
    have e : ∀ c : Nat, c < 256 → cntF f c 0 (k + 1) = cntF f c 0 k + (if f (k : Int) = (c : Int) then 1 else 0) := fun c _ => by
      rw [cntF_add, Int.zero_add, cntF_const (d := f (k : Int)) (a := (k : Int)) (k := 1) (fun r h1 h2 => by rw [show r = (k : Int) from by omega])]
    rw [sumN_congr (h := fun c => cntF f c 0 k + (if f (k : Int) = (c : Int) then 1 else 0)) 256 e, sumN_add, sum_cnt k (fun r h0 h1 => h r h0 (by omega)), sumN_ind]
    have := h (k : Int) (by omega) (by omega)
    rw [if_pos (by omega)]
theorem sum_total {f : Int → Int} (h : ∀ r, 0 ≤ r → r ≤ 1114111 → 0 ≤ f r ∧ f r ≤ 255) : sumN (fun c => total f c 8704) 256 = 1114112 := by
  rw [sumN_congr (h := fun c => cntF f c 0 1114112) 256 (fun c _ => total_eq f c 8704)]
  exact sum_cnt 1114112 fun r h0 h1 => h r h0 (by omega)
end Go.Proofs.Ytbbemipidkhmfaa
