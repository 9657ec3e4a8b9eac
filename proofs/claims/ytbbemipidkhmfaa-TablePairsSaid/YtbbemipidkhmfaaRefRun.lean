/-
  The document's runes of a text, as lists in memory.
-/
import Derived.Lib.OwnBridge
import Derived.Test.YtbbemipidkhmfaaRefDec
import Derived.Test.YtbbemipidkhmfaaRefK
import Derived.Test.YtbbemipidkhmfaaOpen
namespace Go.Proofs.Ytbbemipidkhmfaa
open Go.RowKit Go.Maps

/-- Marks: a place, a width, a rune, whether it is bad. -/
structure Mk where
  at_ : Int
  wd : Int
  r : Int
  bad : Bool
def mkCells : List Mk → List Value
  | [] => []
  | x :: t => .int .i64 x.at_ :: .int .i64 x.wd :: .int .i32 x.r :: .bool x.bad :: mkCells t
theorem mkCells_append : ∀ a b : List Mk, mkCells (a ++ b) = mkCells a ++ mkCells b
  | [], _ => rfl
  | x :: a, b => by simp [mkCells, mkCells_append a b]
theorem mkCells_length : ∀ a : List Mk, (mkCells a).length = a.length * 4
  | [] => rfl
  | x :: a => by simp only [mkCells, List.length_cons, mkCells_length a]; omega
theorem mkCells_get (a b : List Mk) (x : Mk) : (mkCells (a ++ x :: b))[a.length * 4 + 2]? = some (.int .i32 x.r) := by
  rw [mkCells_append, List.getElem?_append_right (by rw [mkCells_length]; omega), mkCells_length, show a.length * 4 + 2 - a.length * 4 = 2 from by omega]
  rfl
theorem infoMp : (Try.prog.info? 127).map (fun i => (i.zero, i.size, i.bytes)) = some (some (.agg #[.int .i64 0, .int .i64 0, .int .i32 0, .bool false]), 4, 24) := by kernel_rfl
theorem infoIp : (Try.prog.info? 3).map (fun i => (i.zero, i.size, i.bytes)) = some (some (.int .i64 0), 1, 8) := by kernel_rfl
theorem infoRp : (Try.prog.info? 21).map (fun i => (i.zero, i.size, i.bytes)) = some (some (.int .i32 0), 1, 4) := by kernel_rfl

set_option maxRecDepth 100000 in
set_option maxHeartbeats 8000000 in
theorem c_Marks (s : ByteArray) (hm : s.size ≤ 1000000000) (w : World) : Calls Try.prog 84 #[.string s] w fun e w' => ∃ v ms, e = .returned v ∧ w'.ownsRow w.heap.size 127 4 v ms.length (mkCells ms) ∧ ms.map Mk.r = runesOf s ∧ Ext w w' := by
  obtain ⟨i0, hi0, hz0, hz1, hz2⟩ := info_parts infoMp
  go_enter Try.func84, Try.ntmps84
  go_wp2_with fail
  go_loopw [3, 4] (fun lv kv W => ∃ (at_ : Nat) (ms : List Mk), kv = .int .i64 (at_ : Nat) ∧ at_ ≤ s.size ∧ ms.length ≤ at_ ∧ Hid (ms.map Mk.r ++ runesFrom s s.size at_ = runesOf s) ∧ W.ownsRow w.heap.size 127 4 lv ms.length (mkCells ms) ∧ Ext w W) (fun _ kv _ => s.size + 1 - (intOf kv).toNat)
  case atStart => exact ⟨0, [], rfl, by omega, by simp, Lib.hid rfl, World.ownsRow_nil _ _ _ _, Ext.refl _⟩
  case round =>
    obtain ⟨p, ms, rfl, hp, hml, hms, hrow, hx⟩ := hrel
    obtain ⟨ps, caps, rfl⟩ := own_slice hrow
    by_cases hlt : p < s.size
    · have hd : decide (p < s.size) = true := decide_eq_true hlt
      have hw := dec_wid s p hlt
      have hmx := dec_max s p
      have hst := hms.out
      rw [runesFrom_step s p hlt] at hst
      have hc := decode_cut s p (by omega)
      obtain ⟨⟨r, n⟩, hrn⟩ : ∃ x, Utf8.decode s p = x := ⟨_, rfl⟩
      rw [hrn] at hst hw hmx hc
      simp only at hst hw hmx
      have HST := Lib.hid hst
      have HC := Lib.hid hc
      clear hst hrn hc
      have hz : 0 < (s.extract p s.size).size := by rw [ByteArray.size_extract]; omega
      by_cases h1 : n = 1
      · subst h1
        by_cases h2 : r = 65533
        · subst h2
          go_wp2_with fail
          refine (c_RDecode _ hz (by rw [ByteArray.size_extract]; omega) _).mono ?_
          rintro e w1 ⟨rfl, rfl⟩
          rw [HC.out]
          simp only
          have hrowA := ownsRow_ext hrow ((Ext.refl w1).alloc (.cells #[.int .i64 (p : Nat), .int .i64 1, .int .i32 65533, .bool true] 127))
          have hxA : Ext w (w1.alloc (.cells #[.int .i64 (p : Nat), .int .i64 1, .int .i32 65533, .bool true] 127)) := hx.alloc _
          have hszA := hxA.sz
          have hnew := World.alloc_heap_new w1 (.cells #[.int .i64 (p : Nat), .int .i64 1, .int .i32 65533, .bool true] 127)
          clear hrow
          go_wp2_with (at_builtin; refine wpList_append_own _ rfl (.tmp 18) (.tmp 29) 124 rfl w.heap.size 127 i0 (.agg #[.int .i64 0, .int .i64 0, .int .i32 0, .bool false]) 4 24 Try.underlying124 hi0 hz0 hz1 hz2 rfl (by decide) _ ms.length (mkCells ms) rfl hrowA ⟨w1.heap.size, 0, none⟩ 1 1 [.int .i64 (p : Nat), .int .i64 1, .int .i32 65533, .bool true] rfl rfl (World.news_of_block hnew) (by intro u hu; simp at hu; rcases hu with rfl | rfl | rfl | rfl <;> rfl) (by unfold maxLen; omega) (by omega) (by simpa using hszA) ?_; intro v9 w9 hown' hgrow _; have hx9 : Ext w w9 := Below.grown hxA hgrow hszA (fun k e => (hrowA.lt k e).1); clear hgrow hrowA hxA hszA hnew)
          have e : mkCells (ms ++ [⟨(p : Nat), 1, 65533, true⟩]) = mkCells ms ++ [.int .i64 (p : Nat), .int .i64 1, .int .i32 65533, .bool true] := by rw [mkCells_append]; rfl
          rw [← e] at hown'
          clear e
          go_roundw
          case rel => exact ⟨p + 1, ms ++ [⟨(p : Nat), 1, 65533, true⟩], by simp, by omega, by simp; omega, Lib.hid (by rw [← HST.out]; simp), by simpa using hown', hx9⟩
          case measure => simp [intOf]; omega
        · have hb2 : (((r : Nat) : Int) == 65533) = false := beq_false_of_ne (by omega)
          have H2 := Lib.hid h2
          clear h2
          go_wp2_with fail
          refine (c_RDecode _ hz (by rw [ByteArray.size_extract]; omega) _).mono ?_
          rintro e w1 ⟨rfl, rfl⟩
          rw [HC.out]
          simp only
          have hrowA := ownsRow_ext hrow ((Ext.refl w1).alloc (.cells #[.int .i64 (p : Nat), .int .i64 1, .int .i32 (r : Nat), .bool false] 127))
          have hxA : Ext w (w1.alloc (.cells #[.int .i64 (p : Nat), .int .i64 1, .int .i32 (r : Nat), .bool false] 127)) := hx.alloc _
          have hszA := hxA.sz
          have hnew := World.alloc_heap_new w1 (.cells #[.int .i64 (p : Nat), .int .i64 1, .int .i32 (r : Nat), .bool false] 127)
          clear hrow
          go_wp2_with (at_builtin; refine wpList_append_own _ rfl (.tmp 18) (.tmp 29) 124 rfl w.heap.size 127 i0 (.agg #[.int .i64 0, .int .i64 0, .int .i32 0, .bool false]) 4 24 Try.underlying124 hi0 hz0 hz1 hz2 rfl (by decide) _ ms.length (mkCells ms) rfl hrowA ⟨w1.heap.size, 0, none⟩ 1 1 [.int .i64 (p : Nat), .int .i64 1, .int .i32 (r : Nat), .bool false] rfl rfl (World.news_of_block hnew) (by intro u hu; simp at hu; rcases hu with rfl | rfl | rfl | rfl <;> rfl) (by unfold maxLen; omega) (by omega) (by simpa using hszA) ?_; intro v9 w9 hown' hgrow _; have hx9 : Ext w w9 := Below.grown hxA hgrow hszA (fun k e => (hrowA.lt k e).1); clear hgrow hrowA hxA hszA hnew)
          have e : mkCells (ms ++ [⟨(p : Nat), 1, (r : Nat), false⟩]) = mkCells ms ++ [.int .i64 (p : Nat), .int .i64 1, .int .i32 (r : Nat), .bool false] := by rw [mkCells_append]; rfl
          rw [← e] at hown'
          clear e
          go_roundw
          case rel => exact ⟨p + 1, ms ++ [⟨(p : Nat), 1, (r : Nat), false⟩], by simp, by omega, by simp; omega, Lib.hid (by rw [← HST.out]; simp), by simpa using hown', hx9⟩
          case measure => simp [intOf]; omega
      · have hb1 : (((n : Nat) : Int) == 1) = false := beq_false_of_ne (by omega)
        have H1 := Lib.hid h1
        clear h1
        go_wp2_with fail
        refine (c_RDecode _ hz (by rw [ByteArray.size_extract]; omega) _).mono ?_
        rintro e w1 ⟨rfl, rfl⟩
        rw [HC.out]
        simp only
        have hrowA := ownsRow_ext hrow ((Ext.refl w1).alloc (.cells #[.int .i64 (p : Nat), .int .i64 (n : Nat), .int .i32 (r : Nat), .bool false] 127))
        have hxA : Ext w (w1.alloc (.cells #[.int .i64 (p : Nat), .int .i64 (n : Nat), .int .i32 (r : Nat), .bool false] 127)) := hx.alloc _
        have hszA := hxA.sz
        have hnew := World.alloc_heap_new w1 (.cells #[.int .i64 (p : Nat), .int .i64 (n : Nat), .int .i32 (r : Nat), .bool false] 127)
        clear hrow
        go_wp2_with (at_builtin; refine wpList_append_own _ rfl (.tmp 18) (.tmp 29) 124 rfl w.heap.size 127 i0 (.agg #[.int .i64 0, .int .i64 0, .int .i32 0, .bool false]) 4 24 Try.underlying124 hi0 hz0 hz1 hz2 rfl (by decide) _ ms.length (mkCells ms) rfl hrowA ⟨w1.heap.size, 0, none⟩ 1 1 [.int .i64 (p : Nat), .int .i64 (n : Nat), .int .i32 (r : Nat), .bool false] rfl rfl (World.news_of_block hnew) (by intro u hu; simp at hu; rcases hu with rfl | rfl | rfl | rfl <;> rfl) (by unfold maxLen; omega) (by omega) (by simpa using hszA) ?_; intro v9 w9 hown' hgrow _; have hx9 : Ext w w9 := Below.grown hxA hgrow hszA (fun k e => (hrowA.lt k e).1); clear hgrow hrowA hxA hszA hnew)
        have e : mkCells (ms ++ [⟨(p : Nat), (n : Nat), (r : Nat), false⟩]) = mkCells ms ++ [.int .i64 (p : Nat), .int .i64 (n : Nat), .int .i32 (r : Nat), .bool false] := by rw [mkCells_append]; rfl
        rw [← e] at hown'
        clear e
        go_roundw
        case rel => exact ⟨p + n, ms ++ [⟨(p : Nat), (n : Nat), (r : Nat), false⟩], by simp, by omega, by simp; omega, Lib.hid (by rw [← HST.out]; simp), by simpa using hown', hx9⟩
        case measure => simp [intOf]; omega
    · obtain rfl : p = s.size := by omega
      have hd : decide (s.size < s.size) = false := decide_eq_false (by omega)
      have hend := hms.out
      rw [runesFrom_end s _ _ (Nat.le_refl _), List.append_nil] at hend
      have HE := Lib.hid hend
      clear hend
      go_wp2_with fail
      go_ret
      exact ⟨_, ms, rfl, hrow, HE.out, hx⟩
/-- The numbers in a row of cells. -/
def nV (k : IntKind) (l : List Int) : List Value := l.map (Value.int k)
theorem nV_append (k : IntKind) (a b : List Int) : nV k (a ++ b) = nV k a ++ nV k b := by simp [nV]
theorem nV_length (k : IntKind) (l : List Int) : (nV k l).length = l.length := by simp [nV]
set_option maxRecDepth 100000 in
set_option maxHeartbeats 8000000 in
theorem c_RRunes (s : ByteArray) (hm : s.size ≤ 1000000000) (w : World) : Calls Try.prog 79 #[.string s] w fun e w' => ∃ v, e = .returned v ∧ w'.ownsRow w.heap.size 21 1 v (runesOf s).length (nV .i32 (runesOf s)) ∧ Ext w w' := by
  obtain ⟨i0, hi0, hz0, hz1, hz2⟩ := info_parts infoRp
  go_enter Try.func79, Try.ntmps79
  go_wp2_with fail
  refine (c_Marks s hm w).mono ?_
  rintro e w1 ⟨v1, ms, rfl, hrow, hms, hx1⟩
  have hlen : ms.length ≤ 1000000000 := by
    have h1 := congrArg List.length hms
    have h2 := runesFrom_length s s.size 0
    unfold runesOf at h1
    rw [List.length_map] at h1
    omega
  have HMS := Lib.hid hms
  clear hms
  obtain ⟨p, cap, rfl⟩ := own_slice hrow
  go_wp2_with fail
  go_loopw [4, 5] (fun ov kv W => ∃ (i : Nat), kv = .int .i64 (i : Nat) ∧ i ≤ ms.length ∧ W.ownsRow w1.heap.size 21 1 ov i (nV .i32 ((ms.take i).map Mk.r)) ∧ Ext w1 W) (fun _ kv _ => ms.length + 1 - (intOf kv).toNat)
  case atStart => exact ⟨0, rfl, by omega, World.ownsRow_nil _ _ _ _, Ext.refl _⟩
  case round =>
    obtain ⟨i, rfl, hi, hout, hx⟩ := hrel
    obtain ⟨po, capo, rfl⟩ := own_slice hout
    by_cases hlt : i < ms.length
    · have hd : decide (i < ms.length) = true := decide_eq_true hlt
      have j1 : ((i : Nat) : Int) < (ms.length : Nat) := by omega
      obtain ⟨g, cap', e⟩ := ownsRow_pos hrow (by omega)
      cases e
      have hcell := (ownsRow_ext hrow hx).cellAt (i * 4 + 2) (by omega)
      have hms2 : ms = ms.take i ++ ms[i] :: ms.drop (i + 1) := by rw [← List.drop_eq_getElem_cons hlt, List.take_append_drop]
      have hget := mkCells_get (ms.take i) (ms.drop (i + 1)) ms[i]
      rw [← hms2, List.length_take, Nat.min_eq_left (by omega)] at hget
      rw [hget] at hcell
      have htk := List.take_succ_eq_append_getElem hlt
      obtain ⟨x, hxe⟩ : ∃ x, ms[i] = x := ⟨_, rfl⟩
      rw [hxe] at hcell htk
      have HTK := Lib.hid htk
      clear hget hms2 htk hxe
      have hr := Lib.hid hrow
      clear hrow
      have hrowA := ownsRow_ext hout ((Ext.refl wr).alloc (.cells #[.int .i32 x.r] 21))
      have hxA := hx.alloc (.cells #[.int .i32 x.r] 21)
      have hszA := hxA.sz
      clear hout
      go_wp2_with (at_builtin; refine wpList_append_own _ rfl (.tmp 14) (.tmp 20) 38 rfl w1.heap.size 21 i0 (.int .i32 0) 1 4 (Try.underlying38) hi0 hz0 hz1 hz2 rfl (by decide) _ i (nV .i32 ((ms.take i).map Mk.r)) rfl hrowA ⟨wr.heap.size, 0, none⟩ 1 1 [.int .i32 x.r] rfl rfl (cell1_new wr _ _) (by intro u hu; simp at hu; rw [hu]; rfl) (by unfold maxLen; omega) (by omega) (by simpa using hszA) ?_; intro v9 w9 hown' hgrow _; have hx9 := Below.grown hxA hgrow hszA (fun k e => (hrowA.lt k e).1); clear hgrow hrowA hxA hszA)
      have e : nV .i32 ((ms.take (i + 1)).map Mk.r) = nV .i32 ((ms.take i).map Mk.r) ++ [.int .i32 x.r] := by rw [HTK.out, List.map_append, nV_append]; rfl
      rw [← e] at hown'
      clear e
      exact ⟨⟨i + 1, by simp, by omega, hown', hx9⟩, by simp [intOf]; omega⟩
    · have hd : decide (i < ms.length) = false := decide_eq_false hlt
      obtain rfl : i = ms.length := by omega
      rw [List.take_length] at hout
      go_wp2_with fail
      go_ret
      exact ⟨_, rfl, by rw [← HMS.out, List.length_map]; exact own_lower hout hx1.sz, Ext.trans hx1 hx⟩
/-- The document's list of classes. -/
theorem runesOf_length (s : ByteArray) : (runesOf s).length ≤ s.size := by
  have := runesFrom_length s s.size 0
  unfold runesOf
  omega
end Go.Proofs.Ytbbemipidkhmfaa
