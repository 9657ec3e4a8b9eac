/-
  Nodes asked for their sums and depths; branches made of two nodes.
-/
import Derived.Test.YtohpekbooapcjaaDoorWalkC
namespace Go.Proofs.YtohpekbooapcjaaDoor
open Go.RowKit Go.Rp

theorem c_leaf_depth (s : ByteArray) (w : World) : Calls Tryd.prog 88 #[.string s] w fun e w' => e = .returned (.int .i64 1) ∧ w' = w := by
  go_enter Tryd.func88, Tryd.ntmps88
  go_wp2
  go_ret
  exact ⟨rfl, rfl⟩
theorem c_branch_depth (b : Nat) (d : Int) (w : World) (hc : w.cell? ⟨b, 8, none⟩ = some (.int .i64 d)) : Calls Tryd.prog 95 #[.pointer (some ⟨b, 0, none⟩)] w fun e w' => e = .returned (.int .i64 d) ∧ w' = w := by
  go_enter Tryd.func95, Tryd.ntmps95
  go_wp2
  go_ret
  exact ⟨rfl, rfl⟩
theorem c_leaf_sum (s : ByteArray) (w : World) (hs : s.size ≤ 1099511627776) : Calls Tryd.prog 90 #[.string s] w fun e w' => e = .returned (.agg (sumA s)) ∧ Ext w w' := by
  go_enter Tryd.func90, Tryd.ntmps90
  go_upto_region 1 with fail
  refine wp_gen (fun W => Ext w W ∧ W.heap[w.heap.size]? = some (.cells #[.int .i64 0, .int .i64 0, .int .i64 0, .int .i64 0, .string { data := #[] }, .string { data := #[] }] 57 (0, 0))) ⟨(Ext.refl w).alloc _, alloc_blk _ _⟩ (fun w0 hw0 => ?_)
  obtain ⟨hx0, hb0⟩ := hw0
  go_wp2_with (go_at_call 91; refine (c_of s w0 hs).mono ?_; rintro e w1 ⟨rfl, hx1⟩; have hb1 := hx1.blk hb0; have hc1 := cell_blk hb1; have hf1 := frz_blk hb1; clear hb0; unfold sumA)
  refine Q_gen (fun W => Ext w W ∧ W.heap[w.heap.size]? = some (.cells (sumA s) 57 (0, 0))) ⟨?_, ?_⟩ (fun W hW => ?_)
  · repeat refine Ext.setCell ?_ (Nat.le_refl _) _
    exact hx0.trans hx1
  · exact set6_blk hb1 _ _ _ _ _ _
  · obtain ⟨hx7, hb7⟩ := hW
    have hc7 := cell_blk hb7
    exact bodyPost_ret (v := .agg (sumA s)) (by simp [results, Tryd.results90, go_sem, hc7, sumA]) rfl ⟨rfl, hx7⟩
theorem c_branch_sum (b : Nat) (va vb d : Value) (s : ByteArray) (w : World)
    (hb : w.heap[b]? = some (.cells #[va, vb, .int .i64 (s.size : Nat), .int .i64 (nRunes s : Nat), .int .i64 (nUnits s : Nat), .int .i64 (nBreaks s : Nat), .string (hdB s), .string (tlB s), d] 96 (0, 0))) :
    Calls Tryd.prog 97 #[.pointer (some ⟨b, 0, none⟩)] w fun e w' => e = .returned (.agg (sumA s)) ∧ Ext w w' := by
  go_enter Tryd.func97, Tryd.ntmps97
  go_upto_region 1 with fail
  refine wp_gen (fun W => Ext w W ∧ W.heap[w.heap.size]? = some (.cells #[.int .i64 0, .int .i64 0, .int .i64 0, .int .i64 0, .string { data := #[] }, .string { data := #[] }] 57 (0, 0))) ⟨(Ext.refl w).alloc _, alloc_blk _ _⟩ (fun w0 hw0 => ?_)
  obtain ⟨hx0, hb0⟩ := hw0
  have hc0 := cell_blk hb0
  have hf0 := frz_blk hb0
  have hc := cell_blk (hx0.blk hb)
  go_wp2_with fail
  refine Q_gen (fun W => Ext w W ∧ W.heap[w.heap.size]? = some (.cells (sumA s) 57 (0, 0))) ⟨?_, ?_⟩ (fun W hW => ?_)
  · repeat refine Ext.setCell ?_ (Nat.le_refl _) _
    exact hx0
  · exact set6_blk hb0 _ _ _ _ _ _
  · obtain ⟨hx7, hb7⟩ := hW
    have hc7 := cell_blk hb7
    exact bodyPost_ret (v := .agg (sumA s)) (by simp [results, Tryd.results97, go_sem, hc7, sumA]) rfl ⟨rfl, hx7⟩

theorem i_leaf_depth (s : ByteArray) (w : World) : (invoke (.fn (.method "kerf/rope.depth") #[]) #[.iface 92 (.string s)]).run Tryd.prog w = .ok (.enter 88 #[.string s]) w := by kernel_rfl
theorem i_branch_depth (s : Addr) (w : World) : (invoke (.fn (.method "kerf/rope.depth") #[]) #[.iface 94 (.pointer (some s))]).run Tryd.prog w = .ok (.enter 95 #[.pointer (some s)]) w := by kernel_rfl
theorem i_leaf_sum (s : ByteArray) (w : World) : (invoke (.fn (.method "kerf/rope.sum") #[]) #[.iface 92 (.string s)]).run Tryd.prog w = .ok (.enter 90 #[.string s]) w := by kernel_rfl
theorem i_branch_sum (s : Addr) (w : World) : (invoke (.fn (.method "kerf/rope.sum") #[]) #[.iface 94 (.pointer (some s))]).run Tryd.prog w = .ok (.enter 97 #[.pointer (some s)]) w := by kernel_rfl

/-- A call through an interface: what is run. -/
theorem exec_invoke {ρ : Operand → Value} {dst : Option Tmp} {recv : Operand} {name : String} {args : Array Operand} {ats : Array TypeId} {ty : TypeId} {pos : String} {after : Array Edge} {g : Option (Nat × Bool)} :
    execOp ρ ⟨dst, .call { callee := .invoke recv name, args := args, argTypes := ats }, ty, pos, after, g⟩ = invoke (.fn (.method name) #[]) (#[ρ recv] ++ args.map ρ) := rfl

/-- The same behind a name that the walk does not open. -/
def inv (name : String) (v : Value) (args : Array Value) : Sem Next := invoke (.fn (.method name) #[]) (#[v] ++ args)
@[go_sem ↓] theorem exec_inv {ρ : Operand → Value} {dst : Option Tmp} {recv : Operand} {name : String} {args : Array Operand} {ats : Array TypeId} {ty : TypeId} {pos : String} {after : Array Edge} {g : Option (Nat × Bool)} :
    execOp ρ ⟨dst, .call { callee := .invoke recv name, args := args, argTypes := ats }, ty, pos, after, g⟩ = inv name (ρ recv) (args.map ρ) := rfl
section
variable {ops : Array Oper} {Q : Exit → Act → World → Prop} {a a' : Act} {w : World} {dst : Option Tmp} {ty : TypeId} {pos : String} {after : Array Edge} {rest : List Oper} {bs : List Bool} {v : Value} {t : T} {recv : Operand} {K : Act → World → Prop}

theorem node_depth (hn : IsNode w v t) : ∃ f args, (∀ w', (invoke (.fn (.method "kerf/rope.depth") #[]) #[v]).run Tryd.prog w' = .ok (.enter f args) w') ∧ ∀ w', Ext w w' → Calls Tryd.prog f args w' fun e w'' => e = .returned (.int .i64 (t.deep : Nat)) ∧ w'' = w' := by
  cases hn with
  | leaf s h1 h2 => exact ⟨_, _, i_leaf_depth s, fun w' _ => c_leaf_depth s w'⟩
  | br blk va vb a b ha hb hd hc => exact ⟨_, _, i_branch_depth _, fun w' hx => c_branch_depth blk _ w' (by rw [cell_blk (hx.blk hc)]; rfl)⟩
theorem node_sum (hn : IsNode w v t) (hs : t.text.size ≤ 1099511627776) : ∃ f args, (∀ w', (invoke (.fn (.method "kerf/rope.sum") #[]) #[v]).run Tryd.prog w' = .ok (.enter f args) w') ∧ ∀ w', Ext w w' → Calls Tryd.prog f args w' fun e w'' => e = .returned (.agg (sumA t.text)) ∧ Ext w' w'' := by
  cases hn with
  | leaf s h1 h2 => exact ⟨_, _, i_leaf_sum s, fun w' _ => c_leaf_sum s w' hs⟩
  | br blk va vb a b ha hb hd hc => exact ⟨_, _, i_branch_sum _, fun w' hx => c_branch_sum blk va vb _ (a.text ++ b.text) w' (hx.blk hc)⟩

theorem upon_depth {o : Oper} {R : Exit → Act → World → Prop} (hn : IsNode w v t) (h : K (a.put o.dst (.int .i64 (t.deep : Nat))) w) :
    o.upon Tryd.prog a K R ((inv "kerf/rope.depth" v #[]).run Tryd.prog w) := by
  obtain ⟨f, args, hr, hc⟩ := node_depth hn
  unfold inv
  have e := hr w
  rw [show (#[v] ++ #[] : Array Value) = #[v] from by simp, e, Oper.upon_enter]
  refine (hc w (Ext.refl w)).mono ?_
  rintro e w' ⟨rfl, rfl⟩
  exact h
theorem upon_sum {o : Oper} {R : Exit → Act → World → Prop} (hn : IsNode w v t) (hs : t.text.size ≤ 1099511627776) (h : ∀ w', Ext w w' → K (a.put o.dst (.agg (sumA t.text))) w') :
    o.upon Tryd.prog a K R ((inv "kerf/rope.sum" v #[]).run Tryd.prog w) := by
  obtain ⟨f, args, hr, hc⟩ := node_sum hn hs
  unfold inv
  have e := hr w
  rw [show (#[v] ++ #[] : Array Value) = #[v] from by simp, e, Oper.upon_enter]
  refine (hc w (Ext.refl w)).mono ?_
  rintro e w' ⟨rfl, hx⟩
  exact h w' hx
attribute [irreducible] inv
theorem wpG_depth (hv : a.eval recv = v) (hn : IsNode w v t) (ha : a.put dst (.int .i64 (t.deep : Nat)) = a') (h : wpG Tryd.prog ops Q bs rest a' w) :
    wpG Tryd.prog ops Q (true :: bs) (⟨dst, .call { callee := .invoke recv "kerf/rope.depth", args := #[], argTypes := #[] }, ty, pos, after, none⟩ :: rest) a w := by
  obtain ⟨f, args, hr, hc⟩ := node_depth hn
  exact wpG_call rfl (fun w' _ => by rw [exec_invoke, hv, show (#[v] ++ Array.map a.eval #[] : Array Value) = #[v] from by simp]; exact hr w') (fun w' hx => (hc w' hx).mono (fun e w'' ⟨h1, h2⟩ => ⟨h1, by rw [h2]; exact Ext.refl _⟩)) ha h
theorem wpG_sum (hv : a.eval recv = v) (hn : IsNode w v t) (hs : t.text.size ≤ 1099511627776) (ha : a.put dst (.agg (sumA t.text)) = a') (h : wpG Tryd.prog ops Q bs rest a' w) :
    wpG Tryd.prog ops Q (true :: bs) (⟨dst, .call { callee := .invoke recv "kerf/rope.sum", args := #[], argTypes := #[] }, ty, pos, after, none⟩ :: rest) a w := by
  obtain ⟨f, args, hr, hc⟩ := node_sum hn hs
  exact wpG_call rfl (fun w' _ => by rw [exec_invoke, hv, show (#[v] ++ Array.map a.eval #[] : Array Value) = #[v] from by simp]; exact hr w') hc ha h
end

theorem IsNode.iface {w : World} {v : Value} {t : T} (hn : IsNode w v t) : ∃ T x, v = .iface T x := by
  cases hn with
  | leaf s h1 h2 => exact ⟨_, _, rfl⟩
  | br blk va vb a b ha hb hd hc => exact ⟨_, _, rfl⟩
theorem gen_K {K : Act → World → Prop} {a : Act} {w : World} (C : World → Prop) (h1 : C w) (h : ∀ w', C w' → K a w') : K a w := h w h1
theorem ret_one {P : Program} {fn : Func} {R : Ending → World → Prop} {a : Act} {w : World} {v : Value} {t : Tmp} (hf : fn.results = #[.tmp t]) (hv : a.tmps.getD t undef = v) (hd : a.defers = []) (hR : R (.returned v) w) : bodyPost P fn R .ret a w :=
  bodyPost_ret (by rw [results_tmp hf, hv]) hd hR
end Go.Proofs.YtohpekbooapcjaaDoor
