/-
  A byte of a rope; whether two ropes have one text.
-/
import Derived.Test.YtohpekbooapcjaaDoorWalkV
namespace Go.Proofs.YtohpekbooapcjaaDoor
open Go.RowKit Go.Rp

/-- The byte at a place. -/
def bytN (s : ByteArray) (k : Nat) : Nat := (s.data.toList[k]?.getD 0).toNat
theorem bytN_eq (s : ByteArray) (k : Nat) (h : k < s.size) : s[k].toNat = bytN s k := by
  unfold bytN
  rw [List.getElem?_eq_getElem (by rw [len_eq]; exact h), Option.getD_some]
  rfl
theorem bytN_left (a b : ByteArray) (k : Nat) (h : k < a.size) : bytN (a ++ b) k = bytN a k := by
  unfold bytN
  rw [toList_append, List.getElem?_append_left (by rw [len_eq]; exact h)]
theorem bytN_right (a b : ByteArray) (k : Nat) (h : a.size ≤ k) : bytN (a ++ b) k = bytN b (k - a.size) := by
  unfold bytN
  rw [toList_append, List.getElem?_append_right (by rw [len_eq]; exact h), len_eq]
theorem bytN_lt (s : ByteArray) (k : Nat) : bytN s k < 256 := by
  unfold bytN
  exact UInt8.toNat_lt _

theorem c_leaf_byte (s : ByteArray) (k : Nat) (w : World) (hs : s.size ≤ 256) (hk : k < s.size) : Calls Tryd.prog 86 #[.string s, .int .i64 (k : Nat)] w fun e w' => e = .returned (.int .u8 (bytN s k)) ∧ Ext w w' := by
  have hb := bytN_eq s k hk
  go_enter Tryd.func86, Tryd.ntmps86
  go_wp2_with fail
  refine ret_one rfl rfl rfl ⟨?_, Ext.refl _⟩
  rw [← hb]
  rfl

theorem i_leaf_byte (s : ByteArray) (n : Int) (w : World) : (invoke (.fn (.method "kerf/rope.byte") #[]) #[.iface 92 (.string s), .int .i64 n]).run Tryd.prog w = .ok (.enter 86 #[.string s, .int .i64 n]) w := by kernel_rfl
theorem i_branch_byte (s : Addr) (n : Int) (w : World) : (invoke (.fn (.method "kerf/rope.byte") #[]) #[.iface 94 (.pointer (some s)), .int .i64 n]).run Tryd.prog w = .ok (.enter 93 #[.pointer (some s), .int .i64 n]) w := by kernel_rfl

def CanByte (w : World) (v : Value) (s : ByteArray) : Prop :=
  ∀ k, k < s.size → ∃ f args, (∀ w', (invoke (.fn (.method "kerf/rope.byte") #[]) #[v, .int .i64 (k : Nat)]).run Tryd.prog w' = .ok (.enter f args) w') ∧ ∀ w', Ext w w' → Calls Tryd.prog f args w' fun e w'' => e = .returned (.int .u8 (bytN s k)) ∧ Ext w' w''

theorem upon_byte {o : Oper} {a : Act} {K : Act → World → Prop} {R : Exit → Act → World → Prop} {w0 w : World} {v : Value} {s : ByteArray} {n : Int} (k : Nat) (h : CanByte w0 v s) (hx : Ext w0 w) (hk : k < s.size) (hn : n = (k : Nat))
    (hK : ∀ w', Ext w w' → K (a.put o.dst (.int .u8 (bytN s k))) w') :
    o.upon Tryd.prog a K R ((inv "kerf/rope.byte" v #[.int .i64 n]).run Tryd.prog w) := by
  subst hn
  obtain ⟨f, args, hr, hc⟩ := h k hk
  unfold inv
  have e := hr w
  rw [show (#[v] ++ #[.int .i64 (k : Nat)] : Array Value) = #[v, .int .i64 (k : Nat)] from by simp, e, Oper.upon_enter]
  refine (hc w hx).mono ?_
  rintro e w' ⟨rfl, h5⟩
  exact hK w' h5

set_option maxRecDepth 100000 in
set_option maxHeartbeats 2000000 in
theorem c_branch_byte (blk : Nat) (vx vy : Value) (x y : T) (k : Nat) (w : World) (hX : IsNode w vx x) (hY : IsNode w vy y)
    (hc : w.heap[blk]? = some (.cells (brA vx vy x y) 96 (0, 0)))
    (hs : x.text.size + y.text.size ≤ 1048576) (hk : k < x.text.size + y.text.size) (cX : CanByte w vx x.text) (cY : CanByte w vy y.text) :
    Calls Tryd.prog 93 #[.pointer (some ⟨blk, 0, none⟩), .int .i64 (k : Nat)] w fun e w' => e = .returned (.int .u8 (bytN (x.text ++ y.text) k)) ∧ Ext w w' := by
  obtain ⟨Tx, xx, rfl⟩ := hX.iface
  obtain ⟨Ty, xy, rfl⟩ := hY.iface
  go_enter Tryd.func93, Tryd.ntmps93
  have hc0 := cell_blk hc
  unfold brA at hc0
  go_upto_region 2 with (refine upon_sum hX (by omega) (fun w1 hx1 => ?_); unfold sumA; go_simp)
  have hc1 := cell_blk (hx1.blk hc)
  unfold brA at hc1
  clear hc0
  by_cases hle : x.text.size ≤ k
  · go_wp2_with fail
    refine upon_byte (k - x.text.size) cY hx1 (by omega) (by omega) (fun w3 hx3 => ?_)
    rw [← bytN_right _ _ _ hle]
    go_wp2_with fail
    exact ret_one rfl rfl rfl ⟨rfl, hx1.trans hx3⟩
  · go_wp2_with fail
    refine upon_byte k cX hx1 (by omega) rfl (fun w3 hx3 => ?_)
    rw [← bytN_left _ y.text _ (by omega)]
    go_wp2_with fail
    exact ret_one rfl rfl rfl ⟨rfl, hx1.trans hx3⟩

theorem can_byte {w : World} {v : Value} {t : T} (hn : IsNode w v t) (hs : t.text.size ≤ 1048576) : CanByte w v t.text := by
  induction hn with
  | leaf s h1 h2 => exact fun k hk => ⟨_, _, i_leaf_byte s _, fun w' _ => c_leaf_byte s k w' h2 hk⟩
  | br blk va vb a b ha hb hd hc iha ihb =>
    simp only [T.text, ByteArray.size_append] at hs
    intro k hk
    simp only [T.text, ByteArray.size_append] at hk
    refine ⟨_, _, i_branch_byte _ _, fun w' hx => c_branch_byte blk va vb a b k w' (ha.mono hx) (hb.mono hx) (hx.blk hc) hs hk ?_ ?_⟩
    · intro j hj
      obtain ⟨f, args, h1, h2⟩ := iha (by omega) j hj
      exact ⟨f, args, h1, fun w2 hx2 => h2 w2 (hx.trans hx2)⟩
    · intro j hj
      obtain ⟨f, args, h1, h2⟩ := ihb (by omega) j hj
      exact ⟨f, args, h1, fun w2 hx2 => h2 w2 (hx.trans hx2)⟩

set_option maxRecDepth 100000 in
set_option maxHeartbeats 1000000 in
theorem c_Byte (v : Value) (o : Option T) (k : Nat) (w : World) (h : IsRope w v o) (hs : (txt o).size ≤ 1048576) (hk : k < (txt o).size) :
    Calls Tryd.prog 41 #[v, .int .i64 (k : Nat)] w fun e w' => e = .returned (.tuple #[.int .u8 (bytN (txt o) k), .bool true]) ∧ Ext w w' := by
  cases h with
  | nil => simp [txt] at hk
  | mk b n' o hn' hc =>
    rcases hn'.iface with ⟨rfl, rfl⟩ | ⟨T0, x0, t0, rfl, rfl, hn0⟩
    · simp [txt] at hk
    · have hr := IsRope.mk b _ (some t0) hn' hc
      go_enter Tryd.func41, Tryd.ntmps41
      go_wp2_with fail
      refine (c_Len _ (some t0) _ hr (by omega)).mono ?_
      rintro e w1 ⟨rfl, hx1⟩
      have hcc := cell_blk (hx1.blk hc)
      go_wp2_with fail
      refine upon_byte k (can_byte hn0 hs) hx1 hk rfl (fun w5 hx5 => ?_)
      go_wp2_with fail
      exact ret_two rfl rfl rfl rfl ⟨rfl, hx1.trans hx5⟩
theorem c_Byte_no (v : Value) (o : Option T) (k : Int) (w : World) (h : IsRope w v o) (hs : (txt o).size ≤ 1048576) (hk : k < 0 ∨ ((txt o).size : Int) ≤ k) :
    Calls Tryd.prog 41 #[v, .int .i64 k] w fun e w' => e = .returned (.tuple #[.int .u8 0, .bool false]) ∧ Ext w w' := by
  by_cases h0 : k < 0
  · go_enter Tryd.func41, Tryd.ntmps41
    go_wp2_with fail
    exact ret_two rfl rfl rfl rfl ⟨rfl, Ext.refl _⟩
  · have h1 : ((txt o).size : Int) ≤ k := by omega
    clear hk
    go_enter Tryd.func41, Tryd.ntmps41
    go_wp2_with fail
    refine (c_Len _ o _ h (by omega)).mono ?_
    rintro e w1 ⟨rfl, hx1⟩
    go_wp2_with fail
    exact ret_two rfl rfl rfl rfl ⟨rfl, hx1⟩

theorem IsRope.ptr {w : World} {v : Value} {o : Option T} (h : IsRope w v o) : ∃ p, v = .pointer p := by
  cases h with
  | nil => exact ⟨_, rfl⟩
  | mk b n o hn hc => exact ⟨_, rfl⟩
theorem c_String (v : Value) (o : Option T) (w : World) (h : IsRope w v o) (hs : (txt o).size ≤ 4294967296) :
    Calls Tryd.prog 27 #[v] w fun e W' => e = .returned (.string (txt o)) ∧ Ext w W' := by
  obtain ⟨p, rfl⟩ := h.ptr
  exact callsIn_wide.1 (c_String_in p o w h hs)

theorem beq_text (a b : ByteArray) : (a.toList == b.toList) = decide (a = b) := by
  rw [ByteArray.toList_eq, ByteArray.toList_eq]
  by_cases h : a = b
  · subst h
    simp
  · have h2 : a.data.toList ≠ b.data.toList := fun e => h (ByteArray.ext (Array.toList_inj.1 e))
    rw [decide_eq_false h]
    exact beq_false_of_ne h2
set_option maxRecDepth 100000 in
theorem c_Equal (v v' : Value) (o o' : Option T) (w : World) (h : IsRope w v o) (h' : IsRope w v' o') (hs : (txt o).size ≤ 1048576) (hs' : (txt o').size ≤ 1048576) :
    Calls Tryd.prog 17 #[v, v'] w fun e w' => e = .returned (.bool (decide (txt o = txt o'))) ∧ Ext w w' := by
  go_enter Tryd.func17, Tryd.ntmps17
  go_wp2_with fail
  refine (c_String v o _ h (by omega)).mono ?_
  rintro e w1 ⟨rfl, hx1⟩
  go_wp2_with fail
  refine (c_String v' o' _ (h'.mono hx1) (by omega)).mono ?_
  rintro e w2 ⟨rfl, hx2⟩
  go_wp2_with fail
  refine ret_one rfl rfl rfl ⟨?_, hx1.trans hx2⟩
  show Ending.returned (.bool ((txt o).toList == (txt o').toList)) = _
  rw [beq_text]
end Go.Proofs.YtohpekbooapcjaaDoor
