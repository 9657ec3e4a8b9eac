/-
  The document's take, put.
-/
import Derived.Deep.AppendLies
import Derived.Test.YtbbemipidkhmfaaBytM
import Derived.Test.YtbbemipidkhmfaaRefK
import Derived.Test.YtbbemipidkhmfaaPlanC
namespace Go.Proofs.Ytbbemipidkhmfaa
section
open Go.RowKit Go.Maps Go.Shelf

/-- How far a number has been read. -/
def TkSt (D0 D : List Int) (i : Nat) (acc : Nat) : Prop := acc < 128 ^ i ∧ ∀ (m : Nat) (s : List Int), (D0 = numB m ++ s ↔ ∃ m', m = acc + m' * 128 ^ i ∧ (0 < i → 0 < m') ∧ D = numB m' ++ s)
theorem TkSt.zero (D : List Int) : TkSt D D 0 0 := ⟨by simp, fun m s => ⟨fun h => ⟨m, by simp, by omega, h⟩, fun ⟨m', h1, _, h3⟩ => by simp at h1; rw [h1]; exact h3⟩⟩
theorem TkSt.more {D0 D : List Int} {i acc c : Nat} (h : TkSt D0 ((c : Int) :: D) i acc) (h1 : 128 ≤ c) (h2 : c ≤ 255) : TkSt D0 D (i + 1) (acc + c % 128 * 128 ^ i) := by
  obtain ⟨ha, hb⟩ := h
  have hp : 0 < 128 ^ i := Nat.pow_pos (by decide)
  have hm : c % 128 * 128 ^ i ≤ 127 * 128 ^ i := Nat.mul_le_mul_right _ (by omega)
  refine ⟨by rw [Nat.pow_succ]; omega, fun m s => ?_⟩
  rw [hb]
  constructor
  · rintro ⟨m', e1, e2, e3⟩
    by_cases hs : m' < 128
    · rw [numB_small hs] at e3
      simp only [List.cons_append, List.nil_append, List.cons.injEq] at e3
      omega
    · rw [numB_great hs] at e3
      simp only [List.cons_append, List.cons.injEq] at e3
      obtain ⟨e4, e5⟩ := e3
      refine ⟨m' / 128, ?_, fun _ => by omega, e5⟩
      have h3 : m' = c % 128 + m' / 128 * 128 := by omega
      rw [e1, Nat.pow_succ]
      conv => lhs; rw [h3]
      rw [Nat.add_mul, Nat.mul_assoc, Nat.mul_comm 128 (128 ^ i)]
      omega
  · rintro ⟨m', e1, e2, e3⟩
    have e2 := e2 (by omega)
    refine ⟨c % 128 + m' * 128, ?_, fun _ => by omega, ?_⟩
    · rw [e1, Nat.add_mul, Nat.mul_assoc, Nat.pow_succ, Nat.mul_comm 128 (128 ^ i)]
      omega
    · rw [numB_great (by omega), show (c % 128 + m' * 128) / 128 = m' from by omega, show (c % 128 + m' * 128) % 128 + 128 = c from by omega, e3]
      rfl
theorem TkSt.last {D0 D : List Int} {i acc c : Nat} (h : TkSt D0 ((c : Int) :: D) i acc) (h1 : c < 128) (m : Nat) (s : List Int) : D0 = numB m ++ s ↔ m = acc + c * 128 ^ i ∧ (0 < i → 0 < c) ∧ s = D := by
  rw [h.2]
  constructor
  · rintro ⟨m', e1, e2, e3⟩
    by_cases hs : m' < 128
    · rw [numB_small hs] at e3
      simp only [List.cons_append, List.nil_append, List.cons.injEq] at e3
      have : m' = c := by omega
      subst this
      exact ⟨e1, e2, e3.2.symm⟩
    · rw [numB_great hs] at e3
      simp only [List.cons_append, List.cons.injEq] at e3
      omega
  · rintro ⟨e1, e2, e3⟩
    exact ⟨c, e1, e2, by rw [numB_small h1, e3]; rfl⟩
theorem TkSt.none {D0 : List Int} {i acc : Nat} (h : TkSt D0 [] i acc) (m : Nat) (s : List Int) : D0 ≠ numB m ++ s := by
  rw [ne_eq, h.2]
  rintro ⟨m', _, _, e⟩
  have := numB_ne m'
  have e2 := congrArg List.length e
  rw [List.length_append] at e2
  have := List.length_pos_iff.2 this
  simp at e2
  omega
theorem TkSt.four {D0 D : List Int} {acc : Nat} (h : TkSt D0 D 4 acc) (m : Nat) (s : List Int) (hm : m < 268435456) : D0 ≠ numB m ++ s := by
  rw [ne_eq, h.2]
  rintro ⟨m', e1, e2, _⟩
  have := e2 (by decide)
  simp only [show 128 ^ 4 = 268435456 from rfl] at e1
  omega
/-- What take tells. -/
def tkOK (b : List Int) (at_ : Nat) (e : Ending) : Prop :=
  (∃ m s, b.drop at_ = numB m ++ s ∧ m < 268435456 ∧ e = .returned (.tuple #[.int .i64 (m : Nat), .int .i64 ((at_ + (numB m).length : Nat) : Int), .bool true])) ∨
  (∃ x y : Int, (∀ m s, m < 268435456 → b.drop at_ ≠ numB m ++ s) ∧ e = .returned (.tuple #[.int .i64 x, .int .i64 y, .bool false]))
theorem numB_len : ∀ (i m : Nat), m < 128 ^ (i + 1) → (0 < i → 128 ^ i ≤ m) → (numB m).length = i + 1
  | 0, m, h, _ => by rw [numB_small (by simpa using h)]; rfl
  | i + 1, m, h, h2 => by
    have h2 := h2 (by omega)
    have hp : 128 ^ 1 ≤ 128 ^ (i + 1) := Nat.pow_le_pow_right (by decide) (by omega)
    rw [numB_great (by omega), List.length_cons, numB_len i (m / 128) (by rw [Nat.pow_succ] at h; omega) (fun _ => by rw [Nat.pow_succ] at h2; omega)]

set_option maxRecDepth 100000 in
set_option maxHeartbeats 8000000 in
theorem c_take (v : Value) (b : List Int) (at_ : Nat) (w : World) (h : ByRow w v b) (ha : at_ ≤ b.length) (hl : b.length ≤ 1000000) :
    Calls Try.prog 58 #[v, .int .i64 (at_ : Nat)] w fun e w' => Ext w w' ∧ tkOK b at_ e := by
  have hb0 : ∀ x ∈ b, 0 ≤ x ∧ x ≤ 255 := by obtain ⟨_, _, _, _, hb, _⟩ := h; exact hb
  obtain ⟨p, cap, rfl⟩ : ∃ p cap, v = .slice p b.length cap := by obtain ⟨p, cap, e, _⟩ := h; exact ⟨p, cap, e⟩
  have HB0 := Lib.hid hb0
  clear hb0
  go_enter Try.func58, Try.ntmps58
  go_wp2_with fail
  go_loopw [7, 8] (fun nv kv W => ∃ (i acc : Nat), kv = .int .i64 (i : Nat) ∧ nv = .int .i64 (acc : Nat) ∧ i ≤ 4 ∧ at_ + i ≤ b.length ∧ Hid (TkSt (b.drop at_) (b.drop (at_ + i)) i acc) ∧ Ext w W) (fun _ kv _ => 5 - (intOf kv).toNat)
  case atStart => exact ⟨0, 0, rfl, rfl, by omega, by omega, Lib.hid (TkSt.zero _), Ext.refl _⟩
  case round =>
    obtain ⟨i, acc, rfl, rfl, hi, hal, hst, hx⟩ := hrel
    by_cases h4 : i < 4
    · have hI4 : ((i : Nat) : Int) < 4 := by omega
      by_cases hlt : at_ + i < b.length
      · have hltI : ¬ ((b.length : Nat) : Int) ≤ ((at_ : Nat) : Int) + (i : Nat) := by omega
        obtain ⟨b1, o1, rfl, hc1⟩ := (h.mono hx).at (by intro e; rw [e] at hlt; simp at hlt)
        have a1 := hc1 (at_ + i) hlt
        have hcb := HB0.out _ (List.getElem_mem hlt)
        have hdr := List.drop_eq_getElem_cons hlt
        obtain ⟨c, hc⟩ : ∃ c : Nat, b[at_ + i] = (c : Nat) := ⟨b[at_ + i].toNat, by omega⟩
        rw [hc] at a1 hcb hdr
        have hstc := hst.out
        rw [hdr] at hstc
        have HST := Lib.hid hstc
        have hacc := hstc.1
        clear hc1 hc hdr hstc
        have hE : wrap64 ((acc : Int) + wrap64 ((c : Int) % 128 * 2 ^ (7 * i))) = ((acc + c % 128 * 128 ^ i : Nat) : Int) := by
          have hi3 : i = 0 ∨ i = 1 ∨ i = 2 ∨ i = 3 := by omega
          rcases hi3 with rfl | rfl | rfl | rfl <;> (simp only [wrap64, Nat.mul_zero, Nat.mul_one, Nat.reduceMul, Int.reducePow, Nat.reducePow, Int.pow_zero, Nat.pow_zero] at *; omega)
        have HE := Lib.hid hE
        obtain ⟨nv, hnv⟩ : ∃ nv, wrap64 ((acc : Int) + wrap64 ((c : Int) % 128 * 2 ^ (7 * i))) = nv := ⟨_, rfl⟩
        have HNV := Lib.hid hnv
        by_cases hc : ((c : Nat) : Int) < 128
        · have HC := Lib.hid hc
          have hbb : Hid (∀ m s, b.drop at_ = numB m ++ s ↔ m = acc + c * 128 ^ i ∧ (0 < i → 0 < c) ∧ s = b.drop (at_ + i + 1)) := Lib.hid fun m s => HST.out.last (by omega) m s
          clear hE
          have hE := HE.out
          rw [hnv, Nat.mod_eq_of_lt (show c < 128 by omega)] at hE
          have HE2 := Lib.hid hE
          have hp : 0 < 128 ^ i := Nat.pow_pos (by decide)
          have hlt1 : acc + c * 128 ^ i < 128 ^ (i + 1) := by
            have := Nat.mul_le_mul_right (128 ^ i) (show c ≤ 127 by omega)
            rw [Nat.pow_succ]
            omega
          have hle : 128 ^ (i + 1) ≤ 128 ^ 4 := Nat.pow_le_pow_right (by decide) (by omega)
          have hyes : Hid ((i = 0 ∨ 0 < c) → tkOK b at_ (.returned (.tuple #[.int .i64 nv, .int .i64 (((at_ : Nat) : Int) + (i : Nat) + 1), .bool true]))) := Lib.hid fun hok => by
            rw [hE]
            refine .inl ⟨acc + c * 128 ^ i, b.drop (at_ + i + 1), (hbb.out _ _).2 ⟨rfl, fun h => hok.resolve_left (by omega), rfl⟩, by omega, ?_⟩
            rw [numB_len i _ hlt1 (fun h0 => by
              have := Nat.mul_le_mul_right (128 ^ i) (show 1 ≤ c by have := hok.resolve_left (by omega); omega)
              omega)]
            congr 5
          have hno : Hid (¬ (i = 0 ∨ 0 < c) → tkOK b at_ (.returned (.tuple #[.int .i64 nv, .int .i64 (((at_ : Nat) : Int) + (i : Nat) + 1), .bool false]))) := Lib.hid fun hok => by
            refine .inr ⟨nv, _, fun m s _ e => ?_, rfl⟩
            obtain ⟨_, h2, _⟩ := (hbb.out m s).1 e
            exact hok (by by_cases h0 : i = 0; exact .inl h0; exact .inr (h2 (by omega)))
          clear hE hp hlt1 hle HE2 hbb hst HST hacc
          rcases Nat.eq_zero_or_pos i with hi0 | hi0
          · have hib : (((i : Nat) : Int) == 0) = true := by subst hi0; rfl
            have HI0 := Lib.hid hi0
            clear hi0
            go_wp2_with fail
            exact bodyPost_ret (v := .tuple #[.int .i64 nv, .int .i64 (((at_ : Nat) : Int) + (i : Nat) + 1), .bool true]) (by simp [results, Try.results58, go_sem]) rfl ⟨hx, hyes.out (.inl HI0.out)⟩
          · have hib : (((i : Nat) : Int) == 0) = false := beq_false_of_ne (by omega)
            by_cases hc0 : 0 < c
            · have hcb2 : decide (0 < c) = true := decide_eq_true hc0
              go_wp2_with fail
              exact bodyPost_ret (v := .tuple #[.int .i64 nv, .int .i64 (((at_ : Nat) : Int) + (i : Nat) + 1), .bool true]) (by simp [results, Try.results58, go_sem]) rfl ⟨hx, hyes.out (.inr hc0)⟩
            · have hcb2 : decide (0 < c) = false := decide_eq_false hc0
              go_wp2_with fail
              exact bodyPost_ret (v := .tuple #[.int .i64 nv, .int .i64 (((at_ : Nat) : Int) + (i : Nat) + 1), .bool false]) (by simp [results, Try.results58, go_sem]) rfl ⟨hx, hno.out (by omega)⟩
        · have HC := Lib.hid hc
          clear hnv
          go_wp2_with fail
          rw [hE]
          go_roundw
          case rel => exact ⟨i + 1, acc + c % 128 * 128 ^ i, by simp, rfl, by omega, by omega, Lib.hid (HST.out.more (by have := HC.out; omega) (by omega)), hx⟩
          case measure => simp [intOf]; omega
      · have hltI : ((b.length : Nat) : Int) ≤ ((at_ : Nat) : Int) + (i : Nat) := by omega
        have hnone : Hid (∀ m s, b.drop at_ ≠ numB m ++ s) := Lib.hid fun m s => by
          have := hst.out
          rw [show b.drop (at_ + i) = [] from List.drop_eq_nil_of_le (by omega)] at this
          exact this.none m s
        go_wp2_with fail
        exact bodyPost_ret (v := .tuple #[.int .i64 0, .int .i64 0, .bool false]) (by simp [results, Try.results58, go_sem]) rfl ⟨hx, .inr ⟨0, 0, fun m s _ => hnone.out m s, rfl⟩⟩
    · obtain rfl : i = 4 := by omega
      have hnone : Hid (∀ m s, m < 268435456 → b.drop at_ ≠ numB m ++ s) := Lib.hid fun m s hm => hst.out.four m s hm
      go_wp2_with fail
      exact bodyPost_ret (v := .tuple #[.int .i64 0, .int .i64 0, .bool false]) (by simp [results, Try.results58, go_sem]) rfl ⟨hx, .inr ⟨0, 0, hnone.out, rfl⟩⟩
end
section
open Go.RowKit Go.Maps Go.Shelf

set_option maxRecDepth 100000 in
set_option maxHeartbeats 4000000 in
theorem c_put (v : Value) (l : List Int) (n : Nat) (n₀ : Nat) (w : World) (h : w.ownsRow n₀ 5 1 v l.length (byV l)) (h0 : n₀ ≤ w.heap.size) (hn : n ≤ 4294967296) (hl : l.length ≤ 100000000) :
    Calls Try.prog 60 #[v, .int .i64 (n : Nat)] w fun e w' => ∃ v', e = .returned v' ∧ w'.ownsRow n₀ 5 1 v' (l ++ numB n).length (byV (l ++ numB n)) ∧ Below n₀ w w' ∧ Far v w v' w' := by
  obtain ⟨i0, hi, hz0, hz1, hz2⟩ := info_parts info5p
  go_enter Try.func60, Try.ntmps60
  go_wp2_with fail
  go_loopw [0, 1] (fun x y w' => ∃ (m : Nat) (b : List Int), y = .int .i64 (m : Nat) ∧ m ≤ n ∧ b.length + m ≤ l.length + n ∧ Hid (b ++ numB m = l ++ numB n) ∧ w'.ownsRow n₀ 5 1 x b.length (byV b) ∧ Below n₀ w w' ∧ Far v w x w') (fun _ y _ => (intOf y).toNat)
  case atStart => exact ⟨n, l, rfl, Nat.le_refl _, Nat.le_refl _, Lib.hid rfl, h, Below.refl _ _, Far.refl _ _⟩
  case round =>
    obtain ⟨m, b, rfl, hm, hbm, hb, hrow, hbl, hfar⟩ := hrel
    have hsz : n₀ ≤ wr.heap.size := by have := hbl.size; omega
    by_cases hlt : m < 128
    · have hlI : ¬ (127 : Int) < ((m : Nat) : Int) := by omega
      have hrow1 := ownsRow_ext hrow ((Ext.refl wr).alloc (.cells #[.int .u8 (m : Nat)] 5))
      obtain ⟨px, cx, rfl⟩ := own_slice hrow
      clear hrow
      have hfar1 := hfar.alloc (.cells #[.int .u8 (m : Nat)] 5)
      go_wp2_with (at_builtin; refine wpList_append_lies _ rfl (.tmp 16) (.tmp 19) 45 rfl n₀ 5 i0 (.int .u8 0) 1 1 Try.underlying45 hi hz0 hz1 hz2 rfl (by decide) _ b.length (byV b) rfl hrow1 ⟨wr.heap.size, 0, none⟩ 1 1 [.int .u8 (m : Nat)] rfl rfl (cell1_new wr _ _) (by intro u hu; simp at hu; rw [hu]; rfl) (by decide) (by unfold maxLen; omega) (by omega) (by simp; omega) _ rfl ?_; intro g' cap' w1 hown' hgrow hlies hglt)
      go_ret
      have e : b ++ [(m : Int)] = l ++ numB n := by rw [← numB_small hlt]; exact hb.out
      refine ⟨_, rfl, ?_, ?_, hfar1.grown hgrow hlies rfl⟩
      · rw [← List.length_append, ← e, byV_append, List.length_append]
        exact hown'
      · exact ((hbl.alloc hsz _).grown hgrow (by simp; omega) (fun k e => (hrow1.lt k e).1))
    · have hlI : (127 : Int) < ((m : Nat) : Int) := by omega
      have hrow1 := ownsRow_ext hrow ((Ext.refl wr).alloc (.cells #[.int .u8 ((m : Int) % 128 + 128)] 5))
      have hfar1 := hfar.alloc (.cells #[.int .u8 ((m : Int) % 128 + 128)] 5)
      obtain ⟨px, cx, rfl⟩ := own_slice hrow
      clear hrow
      go_wp2_with (at_builtin; refine wpList_append_lies _ rfl (.tmp 7) (.tmp 12) 45 rfl n₀ 5 i0 (.int .u8 0) 1 1 Try.underlying45 hi hz0 hz1 hz2 rfl (by decide) _ b.length (byV b) rfl hrow1 ⟨wr.heap.size, 0, none⟩ 1 1 [.int .u8 ((m : Int) % 128 + 128)] rfl rfl (cell1_new wr _ _) (by intro u hu; simp at hu; rw [hu]; rfl) (by decide) (by unfold maxLen; omega) (by omega) (by simp; omega) _ rfl ?_; intro g' cap' w1 hown' hgrow hlies hglt)
      refine ⟨⟨m / 128, b ++ [(m : Int) % 128 + 128], by simp, by omega, by simp; omega, Lib.hid ?_, ?_, (hbl.alloc hsz _).grown hgrow (by simp; omega) (fun k e => (hrow1.lt k e).1), hfar1.grown hgrow hlies rfl⟩, by simp [intOf]; omega⟩
      · rw [List.append_assoc, ← hb.out, numB_great hlt]
        push_cast
        rfl
      · rw [List.length_append, byV_append]
        exact hown'
end
end Go.Proofs.Ytbbemipidkhmfaa
