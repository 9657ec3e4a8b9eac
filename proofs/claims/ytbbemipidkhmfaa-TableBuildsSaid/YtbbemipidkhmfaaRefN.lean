/-
  A block's runs in plain words: cut out of all runs; what they say of two blocks.
-/
import Derived.Test.YtbbemipidkhmfaaRefM
namespace Go.Proofs.Ytbbemipidkhmfaa
open Go.RowKit

/-- The runs from p on, cut at a block's end, told from the block's begin. -/
def clipFrom (lo : Int) : Int → List Rng → List Rng
  | _, [] => []
  | p, x :: t => if x.lo ≤ lo + 127 then ⟨p - lo, (if lo + 127 < x.hi then lo + 127 else x.hi) - lo, x.cl⟩ :: clipFrom lo (x.hi + 1) t else []
theorem clip_head {lo p : Int} : ∀ {l : List Rng}, ∀ y ∈ (clipFrom lo p l).head?, ∃ z ∈ l.head?, y.cl = z.cl
  | [], y, hy => by simp [clipFrom] at hy
  | x :: t, y, hy => by
    rw [clipFrom] at hy
    split at hy
    · simp at hy; subst hy; exact ⟨x, rfl, rfl⟩
    · simp at hy
theorem clip_runs {f : Int → Int} {lo : Int} (h2 : lo + 128 ≤ 1114112) : ∀ {l : List Rng} {s p : Int}, RunsFrom f s 1114112 l → s ≤ p → lo ≤ p → p ≤ lo + 128 → (∀ x ∈ l.head?, p ≤ x.hi ∧ (x.lo = p ∨ p < lo + 128)) →
    RunsFrom (fun r => f (lo + r)) (p - lo) 128 (clipFrom lo p l)
  | [], s, p, h, hs, h0, h1, _ => by
    rw [RunsFrom] at h
    subst h
    show p - lo = 128
    omega
  | x :: t, s, p, ⟨a1, a2, a3, a4, a5⟩, hs, h0, h1, hh => by
    obtain ⟨g1, g2⟩ := hh x rfl
    rw [clipFrom]
    split
    · rename_i hx
      have hval : ∀ r, p - lo ≤ r → lo + r ≤ x.hi → f (lo + r) = x.cl := fun r q1 q2 => a3 (lo + r) (by omega) q2
      by_cases hc : lo + 127 < x.hi
      · rw [if_pos hc]
        have ht : clipFrom lo (x.hi + 1) t = [] := by
          cases t with
          | nil => rfl
          | cons y t2 =>
            have := a5.1
            rw [clipFrom, if_neg (by omega)]
        rw [ht]
        exact ⟨rfl, by show p - lo ≤ lo + 127 - lo; omega, fun r q1 q2 => hval r q1 (by have q2' : r ≤ lo + 127 - lo := q2; omega), by simp, by show lo + 127 - lo + 1 = 128; omega⟩
      · rw [if_neg hc]
        refine ⟨rfl, by show p - lo ≤ x.hi - lo; omega, fun r q1 q2 => hval r q1 (by have q2' : r ≤ x.hi - lo := q2; omega), fun y hy => ?_, ?_⟩
        · obtain ⟨z, hz, e⟩ := clip_head y hy
          rw [e]
          exact a4 z hz
        · have := clip_runs h2 (p := x.hi + 1) a5 (Int.le_refl _) (by omega) (by omega) (fun y hy => by
            cases t with
            | nil => simp at hy
            | cons z t2 =>
              simp at hy
              subst hy
              have := a5.1
              have := a5.2.1
              exact ⟨by omega, .inl (by omega)⟩)
          show RunsFrom _ (x.hi - lo + 1) 128 _
          rw [show x.hi - lo + 1 = x.hi + 1 - lo from by omega]
          exact this
    · rename_i hx
      show p - lo = 128
      omega
/-- The bytes that tell a block's runs. -/
def encC : List Rng → List Int
  | [] => []
  | x :: t => x.hi :: x.cl :: encC t
theorem enc_same {g g' : Int → Int} : ∀ {a b : List Rng} {s : Int}, RunsFrom g s 128 a → RunsFrom g' s 128 b → encC a = encC b → ∀ r, s ≤ r → r < 128 → g r = g' r
  | [], [], s, h, _, _, r, h1, h2 => by rw [RunsFrom] at h; omega
  | [], y :: t, _, _, _, e, _, _, _ => by simp [encC] at e
  | x :: t, [], _, _, _, e, _, _, _ => by simp [encC] at e
  | x :: t, y :: u, s, ⟨a1, a2, a3, a4, a5⟩, ⟨b1, b2, b3, b4, b5⟩, e, r, h1, h2 => by
    simp only [encC, List.cons.injEq] at e
    obtain ⟨e1, e2, e3⟩ := e
    by_cases hr : r ≤ x.hi
    · rw [a3 r (by omega) hr, b3 r (by omega) (by omega), e2]
    · rw [← e1] at b5
      exact enc_same a5 b5 e3 r (by omega) h2
theorem enc_byte {g : Int → Int} (hg : ∀ r, 0 ≤ r → r < 128 → 0 ≤ g r ∧ g r ≤ 255) : ∀ {a : List Rng} {s : Int}, 0 ≤ s → RunsFrom g s 128 a → ∀ x ∈ encC a, 0 ≤ x ∧ x ≤ 255
  | [], _, _, _ => by simp [encC]
  | y :: t, s, h0, ⟨a1, a2, a3, a4, a5⟩ => by
    have hle := a5.le
    intro x hx
    simp only [encC, List.mem_cons] at hx
    rcases hx with rfl | rfl | hx
    · omega
    · have := hg y.lo (by omega) (by omega)
      rw [a3 y.lo (Int.le_refl _) a2] at this
      exact this
    · exact enc_byte hg (by omega) a5 x hx
/-- The runs behind those that end ahead of a number. -/
def fromR (lo : Int) : List Rng → List Rng
  | [] => []
  | x :: t => if x.hi < lo then fromR lo t else x :: t
theorem fromR_runs {f : Int → Int} {lo : Int} (h : lo < 1114112) : ∀ {l : List Rng} {s : Int}, s ≤ lo → RunsFrom f s 1114112 l → ∃ s' x t, fromR lo l = x :: t ∧ RunsFrom f s' 1114112 (x :: t) ∧ s' ≤ lo ∧ lo ≤ x.hi
  | [], s, hs, hr => by rw [RunsFrom] at hr; omega
  | x :: t, s, hs, hr => by
    obtain ⟨a1, a2, a3, a4, a5⟩ := hr
    rw [fromR]
    split
    · exact fromR_runs h (by omega) a5
    · exact ⟨s, x, t, rfl, ⟨a1, a2, a3, a4, a5⟩, hs, by omega⟩
/-- A block's bytes. -/
def encN (R : List Rng) (n : Nat) : List Int := encC (clipFrom ((128 * n : Nat) : Int) ((128 * n : Nat) : Int) (fromR ((128 * n : Nat) : Int) R))
theorem encN_runs {f : Int → Int} {R : List Rng} (h : RunsFrom f 0 1114112 R) {n : Nat} (hn : n < 8704) : RunsFrom (fun r => f (((128 * n : Nat) : Int) + r)) 0 128 (clipFrom ((128 * n : Nat) : Int) ((128 * n : Nat) : Int) (fromR ((128 * n : Nat) : Int) R)) := by
  obtain ⟨s', x, t, e, h1, h2, h3⟩ := fromR_runs (lo := ((128 * n : Nat) : Int)) (by omega) (by omega) h
  rw [e]
  have := clip_runs (lo := ((128 * n : Nat) : Int)) (p := ((128 * n : Nat) : Int)) (by omega) h1 h2 (Int.le_refl _) (by omega) (fun y hy => by simp at hy; subst hy; exact ⟨h3, .inr (by omega)⟩)
  rw [Int.sub_self] at this
  exact this
theorem encN_iff {f : Int → Int} {R : List Rng} (h : RunsFrom f 0 1114112 R) {n m : Nat} (hn : n < 8704) (hm : m < 8704) : encN R n = encN R m ↔ blkOf f n = blkOf f m := by
  have a := encN_runs h hn
  have b := encN_runs h hm
  constructor
  · intro e
    have hs := enc_same a b e
    refine blkOf_eq fun i hi => ?_
    have := hs (i : Int) (by omega) (by omega)
    simpa using this
  · intro e
    have hs : ∀ r, 0 ≤ r → r < 128 → f (((128 * n : Nat) : Int) + r) = f (((128 * m : Nat) : Int) + r) := fun r h0 h1 => by
      have := blkOf_inj e r.toNat (by omega)
      rw [show ((128 * n : Nat) : Int) + r = ((128 * n + r.toNat : Nat) : Int) from by omega, show ((128 * m : Nat) : Int) + r = ((128 * m + r.toNat : Nat) : Int) from by omega]
      exact this
    unfold encN
    rw [(a.congr hs).unique b]
where
  blkOf_eq {f : Int → Int} {n m : Nat} (h : ∀ i, i < 128 → f (((128 * n : Nat) : Int) + (i : Nat)) = f (((128 * m : Nat) : Int) + (i : Nat))) : blkOf f n = blkOf f m := by
    unfold blkOf
    refine List.map_congr_left fun i hi => ?_
    have := h i (List.mem_range.1 hi)
    push_cast at this ⊢
    exact this
  blkOf_inj {f : Int → Int} {n m : Nat} (h : blkOf f n = blkOf f m) (i : Nat) (hi : i < 128) : f ((128 * n + i : Nat) : Int) = f ((128 * m + i : Nat) : Int) := by
    rw [← blkOf_get f n i (by rw [blkOf_length]; exact hi), ← blkOf_get f m i (by rw [blkOf_length]; exact hi)]
    simp only [h]
/-- The same bytes, without where each run begins. -/
def encL (lo : Int) : List Rng → List Int
  | [] => []
  | x :: t => if x.lo ≤ lo + 127 then ((if lo + 127 < x.hi then lo + 127 else x.hi) - lo) :: x.cl :: encL lo t else []
theorem encC_clip (lo : Int) : ∀ (l : List Rng) (p : Int), encC (clipFrom lo p l) = encL lo l
  | [], _ => rfl
  | x :: t, p => by
    rw [clipFrom, encL]
    split
    · rw [encC, encC_clip lo t]
    · rfl
theorem encN_eq (R : List Rng) (n : Nat) : encN R n = encL ((128 * n : Nat) : Int) (fromR ((128 * n : Nat) : Int) R) := encC_clip _ _ _
theorem encN_byte {f : Int → Int} {R : List Rng} (h : RunsFrom f 0 1114112 R) (hf : ∀ r, 0 ≤ r → r ≤ 1114111 → 0 ≤ f r ∧ f r ≤ 255) {n : Nat} (hn : n < 8704) : ∀ x ∈ encN R n, 0 ≤ x ∧ x ≤ 255 :=
  enc_byte (fun r h0 h1 => hf _ (by omega) (by omega)) (Int.le_refl _) (encN_runs h hn)
theorem encN_ne {f : Int → Int} {R : List Rng} (h : RunsFrom f 0 1114112 R) {n : Nat} (hn : n < 8704) : encN R n ≠ [] := by
  have := encN_runs h hn
  intro e
  unfold encN at e
  rcases hc : clipFrom ((128 * n : Nat) : Int) ((128 * n : Nat) : Int) (fromR ((128 * n : Nat) : Int) R) with _ | ⟨x, t⟩
  · rw [hc, RunsFrom] at this; omega
  · rw [hc, encC] at e; cases e
theorem fromR_ne {f : Int → Int} {R : List Rng} (h : RunsFrom f 0 1114112 R) {n : Nat} (hn : n < 8704) : fromR ((128 * n : Nat) : Int) R ≠ [] := by
  obtain ⟨s', x, t, e, _⟩ := fromR_runs (lo := ((128 * n : Nat) : Int)) (by omega) (by omega) h
  rw [e]
  simp
theorem RunsFrom.next {f : Int → Int} : ∀ {l : List Rng} {s e : Int}, RunsFrom f s e l → ∀ i (h : i + 1 < l.length), (l[i + 1]).lo = (l[i]'(by omega)).hi + 1
  | x :: y :: t, s, e, ⟨a1, a2, a3, a4, a5⟩, 0, _ => a5.1
  | x :: y :: t, s, e, ⟨a1, a2, a3, a4, a5⟩, i + 1, h => by
    have := RunsFrom.next a5 i (by simpa using h)
    simpa using this
  | [x], _, _, _, i, h => by simp at h
/-- Which blocks are unlike one another. -/
def Unlike (R : List Rng) (n : Nat) (J : List Nat) : Prop := (J.map (encN R)).Nodup ∧ (∀ j ∈ J, j < n) ∧ ∀ m, m < n → encN R m ∈ J.map (encN R)
theorem Unlike.zero (R : List Rng) : Unlike R 0 [] := ⟨List.nodup_nil, by simp, by intro m h; omega⟩
theorem Unlike.old {R : List Rng} {n : Nat} {J : List Nat} (h : Unlike R n J) (hn : encN R n ∈ J.map (encN R)) : Unlike R (n + 1) J :=
  ⟨h.1, fun j hj => by have := h.2.1 j hj; omega, fun m hm => by
    rcases Nat.lt_succ_iff_lt_or_eq.1 hm with hm | rfl
    · exact h.2.2 m hm
    · exact hn⟩
theorem Unlike.new {R : List Rng} {n : Nat} {J : List Nat} (h : Unlike R n J) (hn : encN R n ∉ J.map (encN R)) : Unlike R (n + 1) (J ++ [n]) := by
  refine ⟨?_, fun j hj => ?_, fun m hm => ?_⟩
  · rw [List.map_append]
    refine List.nodup_append.2 ⟨h.1, by simp, fun a ha b hb => ?_⟩
    simp at hb
    subst hb
    exact fun e => hn (e ▸ ha)
  · rcases List.mem_append.1 hj with hj | hj
    · have := h.2.1 j hj; omega
    · simp at hj; omega
  · rw [List.map_append]
    rcases Nat.lt_succ_iff_lt_or_eq.1 hm with hm | rfl
    · exact List.mem_append_left _ (h.2.2 m hm)
    · simp
/-- As many as a table's unlike blocks. -/
theorem Unlike.blocks {W : World} {T : Nat} {rest : Int} {f g : Int → Int} {U : List (List Int)} {ix : List Nat} {ob oc ub uc : Nat} {R : List Rng} {J : List Nat} (h : Unlike R 8704 J) (hR : RunsFrom f 0 1114112 R) (ht : Tab W T rest g U ix ob oc ub uc) (hfg : ∀ r, 0 ≤ r → r < 1114112 → g r = f r) : U.length = J.length := by
  have hblk : ∀ n, n < 8704 → blkOf g n = blkOf f n := fun n hn => blkOf_congr fun i hi => hfg _ (by omega) (by omega)
  have := ht.blocks (S := J.map (blkOf f)) ?_ (fun n hn => ?_) (fun b hb => ?_)
  · simpa using this
  · rw [List.Nodup, List.pairwise_map]
    have h1 := h.1
    rw [List.Nodup, List.pairwise_map] at h1
    exact h1.imp_of_mem fun ha hb hne e => hne ((encN_iff hR (h.2.1 _ ha) (h.2.1 _ hb)).2 e)
  · obtain ⟨j, hj, e⟩ := List.mem_map.1 (h.2.2 n hn)
    rw [hblk n hn]
    exact List.mem_map.2 ⟨j, hj, (encN_iff hR (h.2.1 j hj) hn).1 e⟩
  · obtain ⟨j, hj, rfl⟩ := List.mem_map.1 hb
    exact ⟨j, h.2.1 j hj, (hblk j (h.2.1 j hj)).symm⟩
end Go.Proofs.Ytbbemipidkhmfaa
