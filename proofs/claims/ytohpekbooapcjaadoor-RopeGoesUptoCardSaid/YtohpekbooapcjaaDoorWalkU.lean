/-
  The pieces of a node, handed to the body of a loop.
-/
import Derived.RangeFuncKeeps
import Derived.RangeFuncBound
import Derived.RangeFuncLeaves
import Derived.RangeFuncFrom
import Derived.OwnWalkIn
import Derived.TacticsInMore
import Derived.Test.YtohpekbooapcjaaDoorWalkT
namespace Go.Proofs.YtohpekbooapcjaaDoor
open Go.RowKit Go.Rp

attribute [local go_sem] Oper.semAt_some

theorem room_of_none {F : Fence} (hd : F.depth = none) (k : Nat) : F.room k := fun d h => by rw [hd] at h; cases h
theorem round_any {F : Fence} (hd : F.depth = none) {m m' : Nat} {P : Program} {l : Nat} {f : FuncId} {tmps : Array Value} {assign body : Code} {w : World} {R : Ending → World → Prop}
    (h : RoundIn F m P l f tmps assign body w R) : RoundIn F m' P l f tmps assign body w R := ⟨h.1, fun c cs _ => h.2 c cs (room_of_none hd _)⟩
theorem yield_any {F : Fence} (hd : F.depth = none) {m : Nat} (m' : Nat) {P : Program} {l : Nat} {args : Array Value} {W : World} {R : Ending → World → Prop} (h : YieldAt F m P l args W R) : YieldAt F m' P l args W R := by
  obtain ⟨fn, tmps, assign, body, hy, hR⟩ := h
  exact ⟨fn, tmps, assign, body, hy, round_any hd hR⟩

/-- The pieces of a tree, in order. -/
def T.pieces : T → List ByteArray
  | .leaf s => [s]
  | .br a b => a.pieces ++ b.pieces
theorem i_leaf_pieces (s : ByteArray) (y : Value) (w : World) : (invoke (.fn (.method "kerf/rope.pieces") #[]) #[.iface 92 (.string s), y]).run Tryd.prog w = .ok (.enter 89 #[.string s, y]) w := by kernel_rfl
theorem i_branch_pieces (s : Addr) (y : Value) (w : World) : (invoke (.fn (.method "kerf/rope.pieces") #[]) #[.iface 94 (.pointer (some s)), y]).run Tryd.prog w = .ok (.enter 96 #[.pointer (some s), y]) w := by kernel_rfl

/-- What is a piece: of a byte at least, of 256 at most. -/
abbrev Piece := { s : ByteArray // 0 < s.size ∧ s.size ≤ 256 }
/-- The bytes of pieces, one behind the other. -/
def glue : List ByteArray → ByteArray
  | [] => ByteArray.empty
  | s :: l => s ++ glue l
theorem glue_append (a b : List ByteArray) : glue (a ++ b) = glue a ++ glue b := by
  induction a with
  | nil => simp [glue]
  | cons s l ih => simp [glue, ih, ByteArray.append_assoc]
theorem glue_pieces (t : T) : glue t.pieces = t.text := by
  induction t with
  | leaf s => simp [T.pieces, T.text, glue]
  | br a b iha ihb => rw [T.pieces, glue_append, iha, ihb, T.text]
/-- The bytes of pieces. -/
def glueP (l : List Piece) : ByteArray := glue (l.map (·.1))
theorem glueP_snoc (l : List Piece) (x : Piece) : glueP (l ++ [x]) = glueP l ++ x.1 := by simp [glueP, glue_append, glue]
theorem glueP_le (l : List Piece) : l.length ≤ (glueP l).size ∧ (glueP l).size ≤ 256 * l.length := by
  induction l with
  | nil => simp [glueP, glue]
  | cons x l ih =>
    have e : glueP (x :: l) = x.1 ++ glueP l := by simp [glueP, glue]
    rw [e, ByteArray.size_append, List.length_cons]
    have := x.2
    omega

/-- What the walk through the pieces hands back. -/
def Went (w0 : World) (J Jx : List Piece → World → Prop) (pre ps : List Piece) (W : World) (e : Ending) (W' : World) : Prop :=
  (e = .returned (.bool true) ∧ J (pre ++ ps) W' ∧ Below w0.heap.size W W') ∨ (e = .returned (.bool false) ∧ ∃ q, q <+: ps ∧ Jx (pre ++ q) W')

set_option maxRecDepth 100000 in
set_option maxHeartbeats 2000000 in
theorem c_leaf_pieces (F : Fence) (hd : F.depth = none) (h6 : F.fn 89) (hro : F.round = none) (l n : Nat) (w0 : World) (J Jx : List Piece → World → Prop) (s : Piece) (pre : List Piece) (W : World)
    (hY : YieldAt F (n - 1) Tryd.prog l #[.string s.1] W fun e W' => (e = .returned (.bool true) ∧ J (pre ++ [s]) W' ∧ Below w0.heap.size W W') ∨ (e = .returned (.bool false) ∧ Jx (pre ++ [s]) W')) :
    CallsIn F n Tryd.prog 89 #[.string s.1, .func (.yield l) #[] #[]] W (Went w0 J Jx pre [s] W) := by
  have hdd : ∀ k : Nat, (F.depth.isSome = true → 1 ≤ k) := fun k h => by rw [hd] at h; cases h
  obtain ⟨fn, tmps, assign, body, hy, hR⟩ := hY
  refine callsIn_of_wp Tryd.func89 rfl h6 ?_ hro
  simp only [Tryd.ntmps89, List.size_toArray, List.length_cons, List.length_nil, Nat.reduceAdd, Nat.reduceSub, Array.replicate_succ, Array.replicate_zero, List.push_toArray, List.append_toArray, List.nil_append, List.cons_append]
  gi_wp2_with ((try refine ⟨hdd _, ?_⟩); refine hR.mono ?_; clear hR; rintro e W2 (⟨rfl, hJ2, hb2⟩ | ⟨rfl, hx2⟩))
  · go_ret
    exact .inl ⟨rfl, hJ2, hb2⟩
  · go_ret
    exact .inr ⟨rfl, [s], List.prefix_refl _, hx2⟩

theorem inv_run {name : String} {v y : Value} {f : FuncId} {args : Array Value} (h : ∀ w, (invoke (.fn (.method name) #[]) #[v, y]).run Tryd.prog w = .ok (.enter f args) w) (w : World) : (inv name v #[y]).run Tryd.prog w = .ok (.enter f args) w := by
  unfold inv
  rw [show (#[v] ++ #[y] : Array Value) = #[v, y] from by simp]
  exact h w

set_option maxRecDepth 100000 in
set_option maxHeartbeats 2000000 in
theorem can_walk (F : Fence) (hd : F.depth = none) (hall : ∀ f, F.fn f) (h5 : F.fn 96) (h6 : F.fn 89) (hro : F.round = none) (l N : Nat) (w0 : World) (J Jx : List Piece → World → Prop)
    (hY : ∀ m pre x W, J pre W → pre.length < N → YieldAt F m Tryd.prog l #[.string x.1] W fun e W' => (e = .returned (.bool true) ∧ J (pre ++ [x]) W' ∧ Below w0.heap.size W W') ∨ (e = .returned (.bool false) ∧ Jx (pre ++ [x]) W'))
    {v : Value} {t : T} (hn : IsNode w0 v t) :
    ∃ f args, (∀ W, (invoke (.fn (.method "kerf/rope.pieces") #[]) #[v, .func (.yield l) #[] #[]]).run Tryd.prog W = .ok (.enter f args) W) ∧
      ∀ (n : Nat) (ps pre : List Piece) (W : World), ps.map (·.1) = t.pieces → Ext w0 W → J pre W → pre.length + ps.length ≤ N → CallsIn F n Tryd.prog f args W (Went w0 J Jx pre ps W) := by
  induction hn with
  | leaf s g1 g2 =>
    refine ⟨_, _, i_leaf_pieces s _, fun n ps pre W hps hx hJ hN => ?_⟩
    obtain ⟨x, rfl⟩ : ∃ x, ps = [x] := by
      match ps, hps with
      | [x], _ => exact ⟨x, rfl⟩
      | [], h => simp [T.pieces] at h
      | _ :: _ :: _, h => simp [T.pieces] at h
    have hs : x.1 = s := by simpa [T.pieces] using hps
    subst hs
    exact c_leaf_pieces F hd h6 hro l n w0 J Jx x pre W (hY _ pre x W hJ (by simp at hN; omega))
  | br blk va vb a b ha hb hdp hc iha ihb =>
    refine ⟨_, _, i_branch_pieces _ _, fun n ps pre W hps hx hJ hN => ?_⟩
    obtain ⟨pa, pb, rfl, hpa, hpb⟩ : ∃ pa pb, ps = pa ++ pb ∧ pa.map (·.1) = a.pieces ∧ pb.map (·.1) = b.pieces := by
      rw [T.pieces] at hps
      obtain ⟨pa, pb, h1, h2, h3⟩ := List.map_eq_append_iff.1 hps
      exact ⟨pa, pb, h1, h2, h3⟩
    have hdd : ∀ k : Nat, (F.depth.isSome = true → 1 ≤ k) := fun k h => by rw [hd] at h; cases h
    obtain ⟨f1, args1, r1, c1⟩ := iha
    obtain ⟨f2, args2, r2, c2⟩ := ihb
    have i1 := fun w => inv_run r1 w
    have i2 := fun w => inv_run r2 w
    simp only [List.length_append] at hN
    have k1 := c1 (n - 1) pa pre W hpa hx hJ (by omega)
    have k2 : ∀ W1, Below w0.heap.size W W1 → J (pre ++ pa) W1 → CallsIn F (n - 1) Tryd.prog f2 args2 W1 (Went w0 J Jx (pre ++ pa) pb W1) := fun W1 hb1 hJ1 => c2 (n - 1) pb _ W1 hpb (Below.trans hx hb1) hJ1 (by simp; omega)
    have hcell := cell_blk (hx.blk hc)
    have hblt := blk_lt hc
    have hc1 : ∀ W1, Below w0.heap.size W W1 → W1.cell? ⟨blk, 1, none⟩ = some vb := fun W1 hb1 => (hb1.cell (p := ⟨blk, 1, none⟩) hblt).trans (hcell 1)
    obtain ⟨Ta, xa, rfl⟩ := ha.iface
    obtain ⟨Tb, xb, rfl⟩ := hb.iface
    have K2 := Lib.hid k2
    have HC := Lib.hid hc1
    clear c1 c2 r1 r2 k2 hc1 hc hY hps hpa hpb
    refine callsIn_of_wp Tryd.func96 rfl h5 ?_ hro
    simp only [Tryd.ntmps96, List.size_toArray, List.length_cons, List.length_nil, Nat.reduceAdd, Nat.reduceSub, Array.replicate_succ, Array.replicate_zero, List.push_toArray, List.append_toArray, List.nil_append, List.cons_append]
    gi_wp2_with (first
      | ((try refine ⟨fun _ _ => hall _, ?_⟩); (try refine ⟨hdd _, ?_⟩); refine k1.mono ?_; rintro e W1 (⟨rfl, hJ1, hb1⟩ | ⟨rfl, q, hq, hx1⟩); have hcb := HC.out W1 hb1)
      | ((try refine ⟨fun _ _ => hall _, ?_⟩); (try refine ⟨hdd _, ?_⟩); refine (K2.out W1 hb1 hJ1).mono ?_; rintro e W2 (⟨rfl, hJ2, hb2⟩ | ⟨rfl, q, hq, hx2⟩)))
    · refine ret_one rfl rfl rfl (.inl ⟨rfl, ?_, hb1.trans hb2⟩)
      simpa [List.append_assoc] using hJ2
    · refine ret_one rfl rfl rfl (.inr ⟨rfl, pa ++ q, ?_, ?_⟩)
      · obtain ⟨r, hr⟩ := hq
        exact ⟨r, by simp [← hr]⟩
      · simpa [List.append_assoc] using hx2
    · refine ret_one rfl rfl rfl (.inr ⟨rfl, q, hq.trans (by simp), hx1⟩)

set_option maxRecDepth 100000 in
set_option maxHeartbeats 2000000 in
/-- The function that Pieces hands back. -/
theorem pieces_stops (v : Value) (o : Option T) (ps : List Piece) (hps : ps.map (·.1) = (o.map T.pieces).getD []) (n Bt : Nat) (w0 w : World) (h : IsRope w0 v o) (hx0 : Ext w0 w) (hBt : w.heap[Bt]? = some (.cells #[v] 25 (0, 0))) :
    SeqStopsK Fence.wide n Tryd.prog 33 #[.pointer (some ⟨Bt, 0, none⟩)] (fun x : Piece => #[Value.string x.1]) (Below w0.heap.size) (fun ys => ys = ps) (fun pre => pre <+: ps) ps.length w := by
  intro l J Jx W hW _ _ hY h0
  have hall : ∀ f, Fence.wide.fn f := fun _ => trivial
  have hdd : ∀ k : Nat, (Fence.wide.depth.isSome = true → 1 ≤ k) := fun k h => by cases h
  have hcell := cell_blk (Ext.blk hW hBt)
  obtain ⟨nd, hnd, hcall⟩ := rope_node h
  have hcall' : CallsIn Fence.wide (n - 1) Tryd.prog 32 #[v] W fun e w'' => e = .returned nd ∧ w'' = W := callsIn_wide.2 (hcall W (hx0.trans hW))
  clear hcall
  have HX := Lib.hid (show Ext w0 W from hx0.trans hW)
  clear hW
  rcases hnd.iface with ⟨rfl, rfl⟩ | ⟨T0, x0, t0, rfl, rfl, hn0⟩
  · obtain rfl : ps = [] := by cases ps with
      | nil => rfl
      | cons x l => simp at hps
    refine callsIn_of_wp Tryd.func33 rfl (hall _) ?_ rfl
    simp only [Tryd.ntmps33, List.size_toArray, List.length_cons, List.length_nil, Nat.reduceAdd, Nat.reduceSub, Array.replicate_succ, Array.replicate_zero, List.push_toArray, List.append_toArray, List.nil_append, List.cons_append]
    have H0 := Lib.hid h0
    clear h0 hY
    gi_wp2_with ((try refine ⟨hdd _, ?_⟩); refine hcall'.mono ?_; rintro e w1 ⟨rfl, rfl⟩)
    go_end0
    exact ⟨⟨_, rfl⟩, .inl ⟨_, rfl, H0.out⟩⟩
  obtain ⟨f1, args1, r1, c1⟩ := can_walk Fence.wide rfl hall (hall _) (hall _) rfl l ps.length w0 J Jx (fun m pre x W1 hj hl => yield_any rfl m (hY pre x W1 hj hl)) hn0
  have k1 := c1 (n - 1) ps [] W (by simpa using hps) HX.out h0 (by simp)
  have i1 := fun w => inv_run r1 w
  have H0 := Lib.hid h0
  clear c1 r1 hY h0
  refine callsIn_of_wp Tryd.func33 rfl (hall _) ?_ rfl
  simp only [Tryd.ntmps33, List.size_toArray, List.length_cons, List.length_nil, Nat.reduceAdd, Nat.reduceSub, Array.replicate_succ, Array.replicate_zero, List.push_toArray, List.append_toArray, List.nil_append, List.cons_append]
  gi_wp2_with (first
    | ((try refine ⟨fun _ _ => hall _, ?_⟩); (try refine ⟨hdd _, ?_⟩); gi_at_call 32; refine hcall'.mono ?_; rintro e w1 ⟨rfl, rfl⟩)
    | ((try refine ⟨fun _ _ => hall _, ?_⟩); (try refine ⟨hdd _, ?_⟩); refine k1.mono ?_; rintro e W1 (⟨rfl, hJ1, hb1⟩ | ⟨rfl, q, hq, hx1⟩)))
  · go_end0
    exact ⟨⟨_, rfl⟩, .inl ⟨_, rfl, by simpa using hJ1⟩⟩
  · go_end0
    exact ⟨⟨_, rfl⟩, .inr ⟨q, hq, by simpa using hx1⟩⟩

/-- Pieces of a rope. -/
theorem pieces_of {w : World} {v : Value} {t : T} (h : IsNode w v t) : ∃ ps : List Piece, ps.map (·.1) = t.pieces := by
  induction h with
  | leaf s g1 g2 => exact ⟨[⟨s, g1, g2⟩], rfl⟩
  | br blk va vb a b ha hb hdp hc iha ihb =>
    obtain ⟨pa, ea⟩ := iha
    obtain ⟨pb, eb⟩ := ihb
    exact ⟨pa ++ pb, by simp [T.pieces, ea, eb]⟩
theorem pieces_ofR {w : World} {v : Value} {o : Option T} (h : IsRope w v o) : ∃ ps : List Piece, ps.map (·.1) = (o.map T.pieces).getD [] ∧ glueP ps = txt o := by
  have key : ∀ (v : Value) (o : Option T), IsTree w v o → ∃ ps : List Piece, ps.map (·.1) = (o.map T.pieces).getD [] ∧ glueP ps = txt o := by
    intro v o hn
    cases o with
    | none => exact ⟨[], rfl, rfl⟩
    | some t =>
      obtain ⟨ps, e⟩ := pieces_of hn
      exact ⟨ps, by simpa using e, by rw [glueP, e, glue_pieces]; rfl⟩
  cases h with
  | nil => exact ⟨[], rfl, rfl⟩
  | mk b n o hn hc => exact key n o hn

theorem c_Pieces (p : Option Addr) (w : World) : Calls Tryd.prog 18 #[.pointer p] w fun e w' => e = .returned (.func (.func 33) #[] #[.pointer (some ⟨w.heap.size, 0, none⟩)]) ∧ w' = w.alloc (.cells #[.pointer p] 25) := by
  go_enter Tryd.func18, Tryd.ntmps18
  go_wp2_with fail
  exact ret_one rfl rfl rfl ⟨rfl, rfl⟩
end Go.Proofs.YtohpekbooapcjaaDoor
