/-
  The document's Blocks.
-/
import Derived.Laws.IdiomStrings
import Derived.Test.YtbbemipidkhmfaaRefG
import Derived.Test.YtbbemipidkhmfaaRefN
import Derived.Test.YtbbemipidkhmfaaWalkN
namespace Go.Proofs.Ytbbemipidkhmfaa
open Go.RowKit Go.Maps Go.Shelf

/-- Numbers as a text of bytes. -/
def toBA (l : List Int) : ByteArray := ⟨(l.map fun x => UInt8.ofNat x.toNat).toArray⟩
theorem toBA_inj {a b : List Int} (ha : ∀ x ∈ a, 0 ≤ x ∧ x ≤ 255) (hb : ∀ x ∈ b, 0 ≤ x ∧ x ≤ 255) : toBA a = toBA b ↔ a = b := by
  constructor
  · intro h
    simp only [toBA, ByteArray.mk.injEq, List.toArray_inj, Array.mk.injEq] at h
    induction a generalizing b with
    | nil => cases b with
      | nil => rfl
      | cons y t => simp at h
    | cons x t ih =>
      cases b with
      | nil => simp at h
      | cons y u =>
        simp only [List.map_cons, List.cons.injEq] at h
        obtain ⟨h1, h2⟩ := h
        have e : x = y := by
          have hx := ha x (by simp)
          have hy := hb y (by simp)
          have := congrArg UInt8.toNat h1
          simp only [UInt8.toNat_ofNat'] at this
          omega
        rw [e, ih (fun z hz => ha z (by simp [hz])) (fun z hz => hb z (by simp [hz])) h2]
  · intro h; rw [h]
set_option maxRecDepth 100000 in
/-- Bytes in cells, as a text. -/
theorem conv_by {w : World} {g cap : Nat} {l : List Int} (hc : ∀ j (h : j < l.length), w.cell? ⟨g, j, none⟩ = some (.int .u8 l[j])) (hb : ∀ x ∈ l, 0 ≤ x ∧ x ≤ 255) : (convert 45 9 (.slice (some ⟨g, 0, none⟩) l.length cap)).run Try.prog w = .ok (.string (toBA l)) w := by
  have hl : l.length = (l.map fun x => UInt8.ofNat x.toNat).length := by simp
  unfold toBA
  rw [show (Value.slice (some ⟨g, 0, none⟩) l.length cap) = .slice (some ⟨g, 0, none⟩) (l.map fun x => UInt8.ofNat x.toNat).length cap from by rw [← hl]]
  refine (run_convert_bytes_back (P := Try.prog) w 45 9 5 ⟨g, 0, none⟩ cap (l.map fun x => UInt8.ofNat x.toNat) Try.underlying45 Try.underlying5 Try.underlying9 (fun j hj => ?_))
  rw [Addr.add_lit, Nat.zero_add]
  have hj' : j < l.length := by simpa using hj
  rw [hc j hj', List.getElem_map]
  congr 2
  have := hb l[j] (List.getElem_mem hj')
  simp only [UInt8.toNat_ofNat']
  omega
theorem info9p : (Try.prog.info? 9).map (fun i => (i.zero, i.size, i.bytes)) = some (some (.string ByteArray.empty), 1, 16) := by kernel_rfl
theorem bytes_iff (x y : ByteArray) : (x.toList == y.toList) = true ↔ x = y := by
  rw [ByteArray.toList_eq, ByteArray.toList_eq, beq_iff_eq, Array.toList_inj]
  exact ⟨fun h => ByteArray.ext h, fun h => by rw [h]⟩
/-- What is in sight of the blocks so far. -/
def strsOf (R : List Rng) (J : List Nat) : List Value := J.map fun j => .string (toBA (encN R j))

theorem at_step {R : List Rng} {n a : Nat} {x : Rng} (ha : a < R.length) (hx : R[a] = x) (h : ∀ m, n ≤ m → fromR ((128 * m : Nat) : Int) (R.drop a) = fromR ((128 * m : Nat) : Int) R) (hlt : x.hi < ((128 * n : Nat) : Int)) :
    ∀ m, n ≤ m → fromR ((128 * m : Nat) : Int) (R.drop (a + 1)) = fromR ((128 * m : Nat) : Int) R := by
  intro m hm
  rw [← h m hm, List.drop_eq_getElem_cons ha, hx, fromR, if_pos (by omega)]
theorem at_stop {R : List Rng} {n a : Nat} {x : Rng} (ha : a < R.length) (hx : R[a] = x) (h : ∀ m, n ≤ m → fromR ((128 * m : Nat) : Int) (R.drop a) = fromR ((128 * m : Nat) : Int) R) (hlt : ¬ x.hi < ((128 * n : Nat) : Int)) :
    encN R n = encL ((128 * n : Nat) : Int) (R.drop a) := by
  rw [encN_eq, ← h n (Nat.le_refl _), List.drop_eq_getElem_cons ha, hx, fromR, if_neg hlt]
theorem at_lt {f : Int → Int} {R : List Rng} {n a : Nat} (hr : RunsFrom f 0 1114112 R) (hn : n < 8704) (ha : a ≤ R.length) (h : ∀ m, n ≤ m → fromR ((128 * m : Nat) : Int) (R.drop a) = fromR ((128 * m : Nat) : Int) R) : a < R.length := by
  rcases Nat.lt_or_ge a R.length with g | g
  · exact g
  · have := h n (Nat.le_refl _)
    rw [List.drop_eq_nil_of_le g, fromR] at this
    exact absurd this.symm (fromR_ne hr hn)

theorem new2 {w : World} {a b : Value} {t : TypeId} : ∀ (j : Nat) u, [a, b][j]? = some u → (w.alloc (.cells #[a, b] t)).cell? ((⟨w.heap.size, 0, none⟩ : Addr).add j) = some u := by
  intro j u hu
  rw [Addr.add_lit, Nat.zero_add, cell_blk (World.alloc_heap_new w _) j]
  simpa using hu
set_option maxRecDepth 100000 in
set_option maxHeartbeats 8000000 in
theorem c_RBlocks {n₀ : Nat} {v : Value} {rest : Int} {L : List Rng} (w : World) (h : IsRef n₀ w v rest L) (hl : L.length ≤ 2000000) :
    Calls Try.prog 21 #[v] w fun e w' => ∃ J, e = .returned (.int .i64 (J.length : Nat)) ∧ Unlike (allGo rest 0 L) 8704 J ∧ Ext w w' := by
  obtain ⟨i5, hi5, hy0, hy1, hy2⟩ := info_parts info5p
  obtain ⟨i9, hi9, hs0, hs1, hs2⟩ := info_parts info9p
  have hnf : NF rest L := by obtain ⟨_, _, _, _, _, _, hnf, _⟩ := h; exact hnf
  have hr0 : 0 ≤ rest ∧ rest ≤ 255 := by obtain ⟨_, _, _, _, _, _, _, hr⟩ := h; exact hr
  have hv : ∃ Y, v = .pointer (some ⟨Y, 0, none⟩) := by obtain ⟨Y, _, e, _⟩ := h; exact ⟨Y, e⟩
  obtain ⟨Y, rfl⟩ := hv
  obtain ⟨R, hR⟩ : ∃ R, allGo rest 0 L = R := ⟨_, rfl⟩
  have hrun := hnf.all.1
  rw [hR] at hrun
  have HF := Lib.hid (hnf.bound hr0)
  have HR := Lib.hid hR
  have HRUN := Lib.hid hrun
  have hRl := hrun.le
  rw [hR]
  clear hnf hR hrun
  go_enter Try.func21, Try.ntmps21
  go_wp2_with fail
  refine (c_All w h hl).mono ?_
  rintro e w1 ⟨v1, rfl, hrow, hx1⟩
  rw [HR.out] at hrow
  have hrg := RgRow.of_own hrow
  obtain ⟨p, cap, rfl⟩ := own_slice hrow
  clear hrow
  go_wp2_with fail
  go_loopw [4, 5, 6] (fun sv av lv W => ∃ (n a : Nat) (J : List Nat), lv = .int .i32 ((128 * n : Nat) : Int) ∧ av = .int .i64 (a : Nat) ∧ n ≤ 8704 ∧ a ≤ R.length ∧ J.length ≤ n ∧ Hid (Unlike R n J) ∧ Hid (∀ m, n ≤ m → fromR ((128 * m : Nat) : Int) (R.drop a) = fromR ((128 * m : Nat) : Int) R) ∧ W.ownsRow w1.heap.size 9 1 sv J.length (strsOf R J) ∧ Ext w1 W) (fun _ _ lv _ => (1114240 - intOf lv).toNat)
  case atStart => exact ⟨0, 0, [], rfl, rfl, by omega, by omega, by simp, Lib.hid (Unlike.zero R), Lib.hid (fun m _ => rfl), World.ownsRow_nil _ _ _ _, Ext.refl _⟩
  case round =>
    obtain ⟨n, a, J, rfl, rfl, hn, ha, hJ, hun, hat, hseen, hx⟩ := hrel
    by_cases hlt : n < 8704
    · have hc1 : ((128 * n : Nat) : Int) ≤ 1114111 := by omega
      obtain ⟨lo, hlo⟩ : ∃ lo : Int, ((128 * n : Nat) : Int) = lo := ⟨_, rfl⟩
      have hlo0 : 0 ≤ lo ∧ lo ≤ 1113984 := by omega
      have HLO := Lib.hid hlo
      rw [hlo] at hc1 ⊢
      have hlo1 : lo = 128 * (n : Int) := by omega
      have HLO1 := Lib.hid hlo1
      clear hlo hlo1
      obtain ⟨ps, caps, rfl⟩ := own_slice hseen
      go_wp2_with fail
      go_loopw [5] (fun av W => ∃ a : Nat, av = .int .i64 (a : Nat) ∧ a ≤ R.length ∧ Hid (∀ m, n ≤ m → fromR ((128 * m : Nat) : Int) (R.drop a) = fromR ((128 * m : Nat) : Int) R) ∧ W.ownsRow w1.heap.size 9 1 (.slice ps J.length caps) J.length (strsOf R J) ∧ Ext w1 W) (fun av _ => R.length + 1 - (intOf av).toNat)
      case atStart => exact ⟨a, rfl, ha, hat, hseen, hx⟩
      case round =>
        clear ha hat hseen hx
        obtain ⟨a, rfl, ha, hat, hseen, hx⟩ := hrel
        have haR := at_lt HRUN.out hlt ha hat.out
        obtain ⟨b1, o1, rfl, hc2⟩ := (hrg.mono hx).at (by intro e; rw [e] at haR; simp at haR)
        obtain ⟨a1, a2, a3⟩ := hc2 a haR
        obtain ⟨x, hxe⟩ : ∃ x, R[a] = x := ⟨_, rfl⟩
        rw [hxe] at a1 a2 a3
        have HXE := Lib.hid hxe
        have j1 : ((a : Nat) : Int) < (R.length : Nat) := by omega
        clear hxe hc2
        by_cases hxlo : x.hi < lo
        · have hd1 : decide (x.hi < lo) = true := decide_eq_true hxlo
          have hnext := Lib.hid (at_step haR HXE.out hat.out (by rw [HLO.out]; exact hxlo))
          go_wp2_with fail
          go_roundw
          case rel => exact ⟨a + 1, by simp, by omega, hnext, hseen, hx⟩
          case measure => simp [intOf]; omega
        · have hd1 : decide (x.hi < lo) = false := decide_eq_false hxlo
          have ha2 := ha
          have hat2 := Lib.hid (fun m (hm : n + 1 ≤ m) => hat.out m (by omega))
          have henc := Lib.hid (at_stop haR HXE.out hat.out (by rw [HLO.out]; exact hxlo))
          go_wp2_with fail
          go_loopw [8, 9] (fun bv kv W => ∃ (k : Nat) (B : List Int), kv = .int .i64 (k : Nat) ∧ k ≤ R.length ∧ Hid (∀ h : k < R.length, lo ≤ R[k].hi) ∧ B.length ≤ 2 * k ∧ Hid (B ++ encL lo (R.drop k) = encN R n) ∧ W.ownsRow w1.heap.size 5 1 bv B.length (byV B) ∧ W.ownsRow w1.heap.size 9 1 (.slice ps J.length caps) J.length (strsOf R J) ∧ Ext w1 W) (fun _ kv _ => R.length + 1 - (intOf kv).toNat)
          case atStart => exact ⟨a, [], rfl, ha, Lib.hid (fun _ => by rw [HXE.out]; omega), by simp, Lib.hid (by rw [henc.out, HLO.out]; rfl), World.ownsRow_nil _ _ _ _, hseen, hx⟩
          case round =>
            clear ha hat hseen hx HXE henc a1 a2 a3 hxlo hd1
            obtain ⟨k, B, rfl, hk, hhi, hBl, hB, hrow, hseen, hx⟩ := hrel
            by_cases hkR : k < R.length
            · obtain ⟨b2, o2, e2, hc2⟩ := (hrg.mono hx).at (by intro e; rw [e] at hkR; simp at hkR)
              cases e2
              obtain ⟨a1, a2, a3⟩ := hc2 k hkR
              have hval := HRUN.out.val _ (List.getElem_mem hkR)
              have hge := hhi.out hkR
              have hB2 := hB.out
              rw [List.drop_eq_getElem_cons hkR, encL] at hB2
              have hnx : ∀ h : k + 1 < R.length, lo ≤ R[k + 1].hi := fun h => by
                have h1 := HRUN.out.next k h
                have h2 := (HRUN.out.val _ (List.getElem_mem h)).2.1
                omega
              obtain ⟨x, hxe⟩ : ∃ x, R[k] = x := ⟨_, rfl⟩
              rw [hxe] at a1 a2 a3 hval hge hB2
              obtain ⟨q1, q2, q3, q4⟩ := hval
              have hcl := HF.out x.lo (by omega) (by omega)
              rw [q4 x.lo (Int.le_refl _) q2] at hcl
              have HNX := Lib.hid hnx
              have hdk : decide (k < R.length) = true := decide_eq_true hkR
              have j1 : ((k : Nat) : Int) < (R.length : Nat) := by omega
              clear hc2 hxe q4 hnx
              by_cases hin : x.lo ≤ lo + 127
              · rw [if_pos hin] at hB2
                have hin2 : x.lo ≤ lo + 128 - 1 := by omega
                have hd1 : decide (x.lo ≤ lo + 128 - 1) = true := decide_eq_true hin2
                by_cases hov : lo + 127 < x.hi
                · rw [if_pos hov] at hB2
                  have hov2 : lo + 128 - 1 < x.hi := by omega
                  have hd2 : decide (lo + 128 - 1 < x.hi) = true := decide_eq_true hov2
                  have hrowA := ownsRow_ext hrow ((Ext.refl wr).alloc (.cells #[.int .u8 (lo + 128 - 1 - lo), .int .u8 x.cl] 5))
                  have hseenA := ownsRow_ext hseen ((Ext.refl wr).alloc (.cells #[.int .u8 (lo + 128 - 1 - lo), .int .u8 x.cl] 5))
                  have hxA : Ext w1 (wr.alloc (.cells #[.int .u8 (lo + 128 - 1 - lo), .int .u8 x.cl] 5)) := hx.alloc _
                  have hszA := hxA.sz
                  have hBn : Hid ((B ++ [(lo + 128 - 1 - lo), x.cl]) ++ encL lo (R.drop (k + 1)) = encN R n) := Lib.hid (by
                    rw [← hB2]
                    simp only [List.append_assoc, List.cons_append, List.nil_append] <;> (congr 2; omega))
                  clear hrow hseen hB2
                  go_wp2_with (at_builtin; refine wpList_append_own _ rfl (.tmp 56) (.tmp 67) 45 rfl w1.heap.size 5 i5 (.int .u8 0) 1 1 Try.underlying45 hi5 hy0 hy1 hy2 rfl (by decide) _ B.length (byV B) rfl hrowA ⟨wr.heap.size, 0, none⟩ 2 2 [.int .u8 (lo + 128 - 1 - lo), .int .u8 x.cl] rfl rfl new2 (by intro u hu; simp at hu; rcases hu with rfl | rfl <;> rfl) (by unfold maxLen; omega) (by omega) (by simpa using hszA) ?_; intro v9 w9 hown' hgrow _; have hx9 : Ext w1 w9 := Below.grown hxA hgrow hszA (fun k e => (hrowA.lt k e).1); have hseen9 := rows_kept hseenA hrowA (by decide) hgrow; clear hgrow hrowA hxA hszA hseenA)
                  have e : byV (B ++ [(lo + 128 - 1 - lo), x.cl]) = byV B ++ [.int .u8 (lo + 128 - 1 - lo), .int .u8 x.cl] := by rw [byV_append]; rfl
                  rw [← e] at hown'
                  clear e
                  go_roundw
                  case rel => exact ⟨k + 1, B ++ [(lo + 128 - 1 - lo), x.cl], by simp, by omega, HNX, by simp; omega, hBn, by simpa using hown', hseen9, hx9⟩
                  case measure => simp [intOf]; omega
                · rw [if_neg hov] at hB2
                  have hov2 : ¬ (lo + 128 - 1 < x.hi) := by omega
                  have hd2 : decide (lo + 128 - 1 < x.hi) = false := decide_eq_false hov2
                  have hrowA := ownsRow_ext hrow ((Ext.refl wr).alloc (.cells #[.int .u8 (x.hi - lo), .int .u8 x.cl] 5))
                  have hseenA := ownsRow_ext hseen ((Ext.refl wr).alloc (.cells #[.int .u8 (x.hi - lo), .int .u8 x.cl] 5))
                  have hxA : Ext w1 (wr.alloc (.cells #[.int .u8 (x.hi - lo), .int .u8 x.cl] 5)) := hx.alloc _
                  have hszA := hxA.sz
                  have hBn : Hid ((B ++ [(x.hi - lo), x.cl]) ++ encL lo (R.drop (k + 1)) = encN R n) := Lib.hid (by
                    rw [← hB2]
                    simp only [List.append_assoc, List.cons_append, List.nil_append] <;> (congr 2; omega))
                  clear hrow hseen hB2
                  go_wp2_with (at_builtin; refine wpList_append_own _ rfl (.tmp 56) (.tmp 67) 45 rfl w1.heap.size 5 i5 (.int .u8 0) 1 1 Try.underlying45 hi5 hy0 hy1 hy2 rfl (by decide) _ B.length (byV B) rfl hrowA ⟨wr.heap.size, 0, none⟩ 2 2 [.int .u8 (x.hi - lo), .int .u8 x.cl] rfl rfl new2 (by intro u hu; simp at hu; rcases hu with rfl | rfl <;> rfl) (by unfold maxLen; omega) (by omega) (by simpa using hszA) ?_; intro v9 w9 hown' hgrow _; have hx9 : Ext w1 w9 := Below.grown hxA hgrow hszA (fun k e => (hrowA.lt k e).1); have hseen9 := rows_kept hseenA hrowA (by decide) hgrow; clear hgrow hrowA hxA hszA hseenA)
                  have e : byV (B ++ [(x.hi - lo), x.cl]) = byV B ++ [.int .u8 (x.hi - lo), .int .u8 x.cl] := by rw [byV_append]; rfl
                  rw [← e] at hown'
                  clear e
                  go_roundw
                  case rel => exact ⟨k + 1, B ++ [(x.hi - lo), x.cl], by simp, by omega, HNX, by simp; omega, hBn, by simpa using hown', hseen9, hx9⟩
                  case measure => simp [intOf]; omega
              · rw [if_neg hin, List.append_nil] at hB2
                have hd1 : decide (x.lo ≤ lo + 128 - 1) = false := decide_eq_false (by omega)
                clear q1 q2 q3 hcl hge
                have hbytes : Hid (∀ x ∈ B, 0 ≤ x ∧ x ≤ 255) := Lib.hid (by rw [hB2]; exact encN_byte HRUN.out HF.out hlt)
                have hBpos : 0 < B.length := by rw [hB2]; exact List.length_pos_iff.2 (encN_ne HRUN.out hlt)
                have HB2 := Lib.hid hB2
                clear hB2
                obtain ⟨g, capg, rfl⟩ := ownsRow_pos hrow hBpos
                go_wp2_with fail
                go_loopw [11, 12] (fun tv kv W => ∃ (t : Bool) (q : Nat), tv = .bool t ∧ kv = .int .i64 ((q : Int) - 1) ∧ q ≤ J.length ∧ Hid ((t = true → encN R n ∈ J.map (encN R)) ∧ (t = false → ∀ j (h : j < J.length), q ≤ j → encN R J[j] ≠ encN R n)) ∧ W.ownsRow w1.heap.size 5 1 (.slice (some ⟨g, 0, none⟩) B.length capg) B.length (byV B) ∧ W.ownsRow w1.heap.size 9 1 (.slice ps J.length caps) J.length (strsOf R J) ∧ Ext w1 W) (fun _ kv _ => (intOf kv + 1).toNat)
                case atStart => exact ⟨false, J.length, rfl, rfl, by omega, Lib.hid ⟨by simp, fun _ j h h2 => by omega⟩, hrow, hseen, hx⟩
                case round =>
                  clear hrow hseen hx
                  obtain ⟨t, q, rfl, rfl, hq, hth, hrow, hseen, hx⟩ := hrel
                  have hcells : ∀ j (h : j < B.length), wr.cell? ⟨g, j, none⟩ = some (.int .u8 B[j]) := fun j hj => by
                    rw [hrow.cellAt j (by omega)]
                    simp [byV, hj]
                  have hconv := conv_by (cap := capg) hcells hbytes.out
                  have hcvE : ∀ w', EOn (fun _ => True) wr w' → (convert 45 9 (.slice (some ⟨g, 0, none⟩) B.length capg)).run Try.prog w' = .ok (.string (toBA B)) w' := fun w' hxe => conv_by (cap := capg) (fun j hj => hxe.cell trivial (hcells j hj)) hbytes.out
                  clear hcells
                  rcases Nat.eq_zero_or_pos q with rfl | hq0
                  · rw [show (((0 : Nat) : Int) - 1) = -1 from rfl]
                    rcases Bool.eq_false_or_eq_true t with rfl | rfl
                    · clear hrow
                      go_wp2_with fail
                      go_roundw
                      case rel => exact ⟨n + 1, _, J, by have := HLO1.out; congr 1; push_cast; omega, rfl, by omega, ha2, by omega, Lib.hid (hun.out.old (hth.out.1 rfl)), hat2, hseen, hx⟩
                      case measure => simp [intOf]; omega
                    · have hnot := Lib.hid (fun hm : encN R n ∈ J.map (encN R) => by
                        obtain ⟨j, hj, e⟩ := List.mem_map.1 hm
                        obtain ⟨i, hi, e2⟩ := List.mem_iff_getElem.1 hj
                        exact hth.out.2 rfl i hi (by omega) (by rw [e2]; exact e))
                      have hseenA := ownsRow_ext hseen ((Ext.refl wr).alloc (.cells #[.string (toBA B)] 9))
                      have hxA : Ext w1 (wr.alloc (.cells #[.string (toBA B)] 9)) := hx.alloc _
                      have hszA := hxA.sz
                      clear hrow hseen
                      go_wp2_with (at_builtin; refine wpList_append_own _ rfl (.tmp 89) (.tmp 92) 89 rfl w1.heap.size 9 i9 (.string ByteArray.empty) 1 16 Try.underlying89 hi9 hs0 hs1 hs2 rfl (by decide) _ J.length (strsOf R J) rfl hseenA ⟨wr.heap.size, 0, none⟩ 1 1 [.string (toBA B)] rfl rfl (cell1_new wr _ _) (by intro u hu; simp at hu; rw [hu]; rfl) (by unfold maxLen; omega) (by omega) (by simpa using hszA) ?_; intro v9 w9 hown' hgrow _; have hx9 : Ext w1 w9 := Below.grown hxA hgrow hszA (fun k e => (hseenA.lt k e).1); clear hgrow hseenA hxA hszA)
                      have e : strsOf R (J ++ [n]) = strsOf R J ++ [.string (toBA B)] := by rw [HB2.out]; simp [strsOf]
                      rw [← e] at hown'
                      clear e
                      go_roundw
                      case rel => exact ⟨n + 1, _, J ++ [n], by have := HLO1.out; congr 1; push_cast; omega, rfl, by omega, ha2, by simp; omega, Lib.hid (hun.out.new hnot.out), hat2, by simpa using hown', hx9⟩
                      case measure => simp [intOf]; omega
                  · obtain ⟨r, rfl⟩ : ∃ r, q = r + 1 := ⟨q - 1, by omega⟩
                    rw [show (((r + 1 : Nat) : Int) - 1) = (r : Int) from by omega]
                    have hrJ : r < J.length := by omega
                    have i5 : ((r : Nat) : Int) < (J.length : Nat) := by omega
                    rcases Bool.eq_false_or_eq_true t with rfl | rfl
                    · clear hrow
                      go_wp2_with fail
                      go_roundw
                      case rel => exact ⟨n + 1, _, J, by have := HLO1.out; congr 1; push_cast; omega, rfl, by omega, ha2, by omega, Lib.hid (hun.out.old (hth.out.1 rfl)), hat2, hseen, hx⟩
                      case measure => simp [intOf]; omega
                    · obtain ⟨gs, caps', e⟩ := ownsRow_pos hseen (by omega)
                      cases e
                      have hcell := hseen.cellAt r (show r < J.length * 1 by omega)
                      have hst : (strsOf R J)[r]? = some (.string (toBA (encN R J[r]))) := by simp [strsOf, hrJ]
                      rw [hst] at hcell
                      clear hst
                      obtain ⟨sj, hsj⟩ : ∃ sj, toBA (encN R J[r]) = sj := ⟨_, rfl⟩
                      obtain ⟨sb, hsb⟩ : ∃ sb, toBA B = sb := ⟨_, rfl⟩
                      rw [hsj] at hcell
                      rw [hsb] at hconv hcvE
                      have HSJ := Lib.hid hsj
                      have HSB := Lib.hid hsb
                      have k1 : ∀ w', EOn (fun _ => True) wr w' → w'.cell? ⟨gs, r, none⟩ = _ := fun w' hx => hx.cell trivial (by simpa using hcell)
                      clear hsj hsb hconv hcell
                      go_wp2_with fail
                      refine wp_lex (fun _ => True) [true, true, true, true, true, true, true, true] (by kernel_rfl) (by kernel_rfl) ?_
                      repeat first
                        | refine wpG_move (by rfl) (by simp only [Act.eval, Array.getD_eq_getD_getElem?, List.getElem?_toArray, List.getElem?_cons_succ, List.getElem?_cons_zero, Option.getD_some]; try rfl) (by simp only [Act.put, List.setIfInBounds_toArray, List.set_cons_succ, List.set_cons_zero]; rfl) ?_
                        | refine wpG_assign (by rfl) (by simp only [Act.eval, Array.getD_eq_getD_getElem?, List.getElem?_toArray, List.getElem?_cons_succ, List.getElem?_cons_zero, Option.getD_some]; try rfl) (by simp only [Act.put, List.setIfInBounds_toArray, List.set_cons_succ, List.set_cons_zero]; rfl) ?_
                        | refine wpG_val (by rfl) (fun w' hx => (by go_simp; first | (go_bits; first | exact rfl | exact ⟨by omega, rfl⟩) | exact rfl | exact (if_neg (by omega)).trans rfl | exact ⟨by omega, rfl⟩)) (by simp only [Act.put, List.setIfInBounds_toArray, List.set_cons_succ, List.set_cons_zero]; rfl) ?_
                        | refine wpG_no (by rfl) (by simp only [Act.put, List.setIfInBounds_toArray, List.set_cons_succ, List.set_cons_zero]; rfl) ?_
                      refine wpG_end (fun w6 hx6 => wpList_nil (gQ_normal ?_))
                      go_wp2_with fail
                      have hrow6 := ownsRow_ext hrow hx6
                      have hseen6 := ownsRow_ext hseen hx6
                      obtain ⟨nb, hnb⟩ : ∃ nb, (sj.toList == sb.toList) = nb := ⟨_, rfl⟩
                      have hiff : nb = true ↔ encN R J[r] = encN R n := by
                        rw [← hnb, bytes_iff, ← HSJ.out, ← HSB.out, HB2.out]
                        exact toBA_inj (encN_byte HRUN.out HF.out (by have := hun.out.2.1 J[r] (List.getElem_mem hrJ); omega)) (encN_byte HRUN.out HF.out hlt)
                      rw [hnb]
                      have hth6 : Hid ((nb = true → encN R n ∈ J.map (encN R)) ∧ (nb = false → ∀ j (h : j < J.length), r ≤ j → encN R J[j] ≠ encN R n)) := Lib.hid ⟨fun h => by
                        rw [← hiff.1 h]
                        exact List.mem_map.2 ⟨_, List.getElem_mem hrJ, rfl⟩, fun h j hj hrj => by
                        rcases Nat.lt_or_ge r j with h2 | h2
                        · exact (by simpa using hth.out.2 : ∀ j (h : j < J.length), r + 1 ≤ j → encN R J[j] ≠ encN R n) j hj (by omega)
                        · obtain rfl : j = r := by omega
                          intro e
                          rw [hiff.2 e] at h
                          cases h⟩
                      clear hnb hiff
                      exact ⟨⟨nb, r, rfl, rfl, by omega, hth6, hrow6, hseen6, Ext.trans hx hx6⟩, by simp [intOf]⟩
            · have hB2 := hB.out
              have hdk : decide (k < R.length) = false := decide_eq_false hkR
              rw [List.drop_eq_nil_of_le (by omega), encL, List.append_nil] at hB2
              have hbytes : Hid (∀ x ∈ B, 0 ≤ x ∧ x ≤ 255) := Lib.hid (by rw [hB2]; exact encN_byte HRUN.out HF.out hlt)
              have hBpos : 0 < B.length := by rw [hB2]; exact List.length_pos_iff.2 (encN_ne HRUN.out hlt)
              have HB2 := Lib.hid hB2
              clear hB2
              obtain ⟨g, capg, rfl⟩ := ownsRow_pos hrow hBpos
              go_wp2_with fail
              go_loopw [11, 12] (fun tv kv W => ∃ (t : Bool) (q : Nat), tv = .bool t ∧ kv = .int .i64 ((q : Int) - 1) ∧ q ≤ J.length ∧ Hid ((t = true → encN R n ∈ J.map (encN R)) ∧ (t = false → ∀ j (h : j < J.length), q ≤ j → encN R J[j] ≠ encN R n)) ∧ W.ownsRow w1.heap.size 5 1 (.slice (some ⟨g, 0, none⟩) B.length capg) B.length (byV B) ∧ W.ownsRow w1.heap.size 9 1 (.slice ps J.length caps) J.length (strsOf R J) ∧ Ext w1 W) (fun _ kv _ => (intOf kv + 1).toNat)
              case atStart => exact ⟨false, J.length, rfl, rfl, by omega, Lib.hid ⟨by simp, fun _ j h h2 => by omega⟩, hrow, hseen, hx⟩
              case round =>
                clear hrow hseen hx
                obtain ⟨t, q, rfl, rfl, hq, hth, hrow, hseen, hx⟩ := hrel
                have hcells : ∀ j (h : j < B.length), wr.cell? ⟨g, j, none⟩ = some (.int .u8 B[j]) := fun j hj => by
                  rw [hrow.cellAt j (by omega)]
                  simp [byV, hj]
                have hconv := conv_by (cap := capg) hcells hbytes.out
                have hcvE : ∀ w', EOn (fun _ => True) wr w' → (convert 45 9 (.slice (some ⟨g, 0, none⟩) B.length capg)).run Try.prog w' = .ok (.string (toBA B)) w' := fun w' hxe => conv_by (cap := capg) (fun j hj => hxe.cell trivial (hcells j hj)) hbytes.out
                clear hcells
                rcases Nat.eq_zero_or_pos q with rfl | hq0
                · rw [show (((0 : Nat) : Int) - 1) = -1 from rfl]
                  rcases Bool.eq_false_or_eq_true t with rfl | rfl
                  · clear hrow
                    go_wp2_with fail
                    go_roundw
                    case rel => exact ⟨n + 1, _, J, by have := HLO1.out; congr 1; push_cast; omega, rfl, by omega, ha2, by omega, Lib.hid (hun.out.old (hth.out.1 rfl)), hat2, hseen, hx⟩
                    case measure => simp [intOf]; omega
                  · have hnot := Lib.hid (fun hm : encN R n ∈ J.map (encN R) => by
                      obtain ⟨j, hj, e⟩ := List.mem_map.1 hm
                      obtain ⟨i, hi, e2⟩ := List.mem_iff_getElem.1 hj
                      exact hth.out.2 rfl i hi (by omega) (by rw [e2]; exact e))
                    have hseenA := ownsRow_ext hseen ((Ext.refl wr).alloc (.cells #[.string (toBA B)] 9))
                    have hxA : Ext w1 (wr.alloc (.cells #[.string (toBA B)] 9)) := hx.alloc _
                    have hszA := hxA.sz
                    clear hrow hseen
                    go_wp2_with (at_builtin; refine wpList_append_own _ rfl (.tmp 89) (.tmp 92) 89 rfl w1.heap.size 9 i9 (.string ByteArray.empty) 1 16 Try.underlying89 hi9 hs0 hs1 hs2 rfl (by decide) _ J.length (strsOf R J) rfl hseenA ⟨wr.heap.size, 0, none⟩ 1 1 [.string (toBA B)] rfl rfl (cell1_new wr _ _) (by intro u hu; simp at hu; rw [hu]; rfl) (by unfold maxLen; omega) (by omega) (by simpa using hszA) ?_; intro v9 w9 hown' hgrow _; have hx9 : Ext w1 w9 := Below.grown hxA hgrow hszA (fun k e => (hseenA.lt k e).1); clear hgrow hseenA hxA hszA)
                    have e : strsOf R (J ++ [n]) = strsOf R J ++ [.string (toBA B)] := by rw [HB2.out]; simp [strsOf]
                    rw [← e] at hown'
                    clear e
                    go_roundw
                    case rel => exact ⟨n + 1, _, J ++ [n], by have := HLO1.out; congr 1; push_cast; omega, rfl, by omega, ha2, by simp; omega, Lib.hid (hun.out.new hnot.out), hat2, by simpa using hown', hx9⟩
                    case measure => simp [intOf]; omega
                · obtain ⟨r, rfl⟩ : ∃ r, q = r + 1 := ⟨q - 1, by omega⟩
                  rw [show (((r + 1 : Nat) : Int) - 1) = (r : Int) from by omega]
                  have hrJ : r < J.length := by omega
                  have i5 : ((r : Nat) : Int) < (J.length : Nat) := by omega
                  rcases Bool.eq_false_or_eq_true t with rfl | rfl
                  · clear hrow
                    go_wp2_with fail
                    go_roundw
                    case rel => exact ⟨n + 1, _, J, by have := HLO1.out; congr 1; push_cast; omega, rfl, by omega, ha2, by omega, Lib.hid (hun.out.old (hth.out.1 rfl)), hat2, hseen, hx⟩
                    case measure => simp [intOf]; omega
                  · obtain ⟨gs, caps', e⟩ := ownsRow_pos hseen (by omega)
                    cases e
                    have hcell := hseen.cellAt r (show r < J.length * 1 by omega)
                    have hst : (strsOf R J)[r]? = some (.string (toBA (encN R J[r]))) := by simp [strsOf, hrJ]
                    rw [hst] at hcell
                    clear hst
                    obtain ⟨sj, hsj⟩ : ∃ sj, toBA (encN R J[r]) = sj := ⟨_, rfl⟩
                    obtain ⟨sb, hsb⟩ : ∃ sb, toBA B = sb := ⟨_, rfl⟩
                    rw [hsj] at hcell
                    rw [hsb] at hconv hcvE
                    have HSJ := Lib.hid hsj
                    have HSB := Lib.hid hsb
                    have k1 : ∀ w', EOn (fun _ => True) wr w' → w'.cell? ⟨gs, r, none⟩ = _ := fun w' hx => hx.cell trivial (by simpa using hcell)
                    clear hsj hsb hconv hcell
                    go_wp2_with fail
                    refine wp_lex (fun _ => True) [true, true, true, true, true, true, true, true] (by kernel_rfl) (by kernel_rfl) ?_
                    repeat first
                      | refine wpG_move (by rfl) (by simp only [Act.eval, Array.getD_eq_getD_getElem?, List.getElem?_toArray, List.getElem?_cons_succ, List.getElem?_cons_zero, Option.getD_some]; try rfl) (by simp only [Act.put, List.setIfInBounds_toArray, List.set_cons_succ, List.set_cons_zero]; rfl) ?_
                      | refine wpG_assign (by rfl) (by simp only [Act.eval, Array.getD_eq_getD_getElem?, List.getElem?_toArray, List.getElem?_cons_succ, List.getElem?_cons_zero, Option.getD_some]; try rfl) (by simp only [Act.put, List.setIfInBounds_toArray, List.set_cons_succ, List.set_cons_zero]; rfl) ?_
                      | refine wpG_val (by rfl) (fun w' hx => (by go_simp; first | (go_bits; first | exact rfl | exact ⟨by omega, rfl⟩) | exact rfl | exact (if_neg (by omega)).trans rfl | exact ⟨by omega, rfl⟩)) (by simp only [Act.put, List.setIfInBounds_toArray, List.set_cons_succ, List.set_cons_zero]; rfl) ?_
                      | refine wpG_no (by rfl) (by simp only [Act.put, List.setIfInBounds_toArray, List.set_cons_succ, List.set_cons_zero]; rfl) ?_
                    refine wpG_end (fun w6 hx6 => wpList_nil (gQ_normal ?_))
                    go_wp2_with fail
                    have hrow6 := ownsRow_ext hrow hx6
                    have hseen6 := ownsRow_ext hseen hx6
                    obtain ⟨nb, hnb⟩ : ∃ nb, (sj.toList == sb.toList) = nb := ⟨_, rfl⟩
                    have hiff : nb = true ↔ encN R J[r] = encN R n := by
                      rw [← hnb, bytes_iff, ← HSJ.out, ← HSB.out, HB2.out]
                      exact toBA_inj (encN_byte HRUN.out HF.out (by have := hun.out.2.1 J[r] (List.getElem_mem hrJ); omega)) (encN_byte HRUN.out HF.out hlt)
                    rw [hnb]
                    have hth6 : Hid ((nb = true → encN R n ∈ J.map (encN R)) ∧ (nb = false → ∀ j (h : j < J.length), r ≤ j → encN R J[j] ≠ encN R n)) := Lib.hid ⟨fun h => by
                      rw [← hiff.1 h]
                      exact List.mem_map.2 ⟨_, List.getElem_mem hrJ, rfl⟩, fun h j hj hrj => by
                      rcases Nat.lt_or_ge r j with h2 | h2
                      · exact (by simpa using hth.out.2 : ∀ j (h : j < J.length), r + 1 ≤ j → encN R J[j] ≠ encN R n) j hj (by omega)
                      · obtain rfl : j = r := by omega
                        intro e
                        rw [hiff.2 e] at h
                        cases h⟩
                    clear hnb hiff
                    exact ⟨⟨nb, r, rfl, rfl, by omega, hth6, hrow6, hseen6, Ext.trans hx hx6⟩, by simp [intOf]⟩
    · obtain rfl : n = 8704 := by omega
      rw [show ((128 * 8704 : Nat) : Int) = 1114112 from rfl]
      obtain ⟨ps, caps, rfl⟩ := own_slice hseen
      go_wp2_with fail
      go_ret
      exact ⟨J, rfl, hun.out, Ext.trans hx1 hx⟩
end Go.Proofs.Ytbbemipidkhmfaa
