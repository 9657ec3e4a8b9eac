/-
  The ranges whose class is not the rest's.
-/
import Derived.Shelf.Abstract
import Derived.Test.YtbbemipidkhmfaaWalkJ
namespace Go.Proofs.Ytbbemipidkhmfaa
open Go.RowKit Go.Maps Go.Shelf

/-- A range as a value. -/
abbrev rgA (x : Rng) : Value := .agg #[.int .i32 x.lo, .int .i32 x.hi, .int .i64 x.cl]
/-- A predicate on ranges, in whatever world has come of this one. -/
def PredR (g : Nat) (lb : Array Value) (p : Rng → Bool) (w : World) : Prop := ∀ x w', Ext w w' → Calls Try.prog g (#[rgA x] ++ lb) w' fun e w'' => e = .returned (.bool (p x)) ∧ Ext w' w''

set_option maxRecDepth 100000 in
set_option maxHeartbeats 4000000 in
theorem c_notRest {T tb : Nat} {rest : Int} {f : Int → Int} {U : List (List Int)} {ix : List Nat} {ob oc ub uc : Nat} (w : World) (h : Tab w T rest f U ix ob oc ub uc) (hb : Boxed w tb 27 (.pointer (some ⟨T, 0, none⟩))) :
    PredR 45 #[.pointer (some ⟨tb, 0, none⟩)] (fun x => x.cl == rest) w := by
  intro x w1 hx1
  show Calls Try.prog 45 #[rgA x, .pointer (some ⟨tb, 0, none⟩)] w1 _
  have hx2 : Ext w (w1.alloc (.cells #[.int .i32 x.lo, .int .i32 x.hi, .int .i64 x.cl] 32)) := Ext.alloc hx1 _
  have hbk : (w1.alloc (.cells #[.int .i32 x.lo, .int .i32 x.hi, .int .i64 x.cl] 32)).heap[w1.heap.size]? = some (.cells #[.int .i32 x.lo, .int .i32 x.hi, .int .i64 x.cl] 32) := World.alloc_heap_new w1 _
  have q1 : ∀ w', EOn (fun _ => True) (w1.alloc (.cells #[.int .i32 x.lo, .int .i32 x.hi, .int .i64 x.cl] 32)) w' → w'.cell? ⟨tb, 0, none⟩ = some (.pointer (some ⟨T, 0, none⟩)) := fun w' hx => hx.cell trivial (hb.ext hx2).cell
  have q2 : ∀ w', EOn (fun _ => True) (w1.alloc (.cells #[.int .i32 x.lo, .int .i32 x.hi, .int .i64 x.cl] 32)) w' → w'.cell? ⟨T, 0, none⟩ = some (.int .i64 rest) := fun w' hx => hx.cell trivial (cell_blk (h.ext hx2).hT 0)
  have q3 : ∀ w', EOn (fun _ => True) (w1.alloc (.cells #[.int .i32 x.lo, .int .i32 x.hi, .int .i64 x.cl] 32)) w' → w'.cell? ⟨w1.heap.size, 2, none⟩ = some (.int .i64 x.cl) := fun w' hx => hx.cell trivial (cell_blk hbk 2)
  go_enter Try.func45, Try.ntmps45
  go_wp2_with fail
  refine wp_lex (fun _ => True) [true, true, true, true, true, true, true, true] (by kernel_rfl) (by kernel_rfl) ?_
  repeat first
    | refine wpG_move (by rfl) (by simp only [Act.eval, Array.getD_eq_getD_getElem?, List.getElem?_toArray, List.getElem?_cons_succ, List.getElem?_cons_zero, Option.getD_some]; try rfl) (by simp only [Act.put, List.setIfInBounds_toArray, List.set_cons_succ, List.set_cons_zero]; rfl) ?_
    | refine wpG_assign (by rfl) (by simp only [Act.eval, Array.getD_eq_getD_getElem?, List.getElem?_toArray, List.getElem?_cons_succ, List.getElem?_cons_zero, Option.getD_some]; try rfl) (by simp only [Act.put, List.setIfInBounds_toArray, List.set_cons_succ, List.set_cons_zero]; rfl) ?_
    | refine wpG_val (by rfl) (fun w' hx => (by go_simp; first | (go_bits; first | exact rfl | exact ⟨by omega, rfl⟩) | exact rfl | exact (if_neg (by omega)).trans rfl | exact ⟨by omega, rfl⟩)) (by simp only [Act.put, List.setIfInBounds_toArray, List.set_cons_succ, List.set_cons_zero]; rfl) ?_
    | refine wpG_no (by rfl) (by simp only [Act.put, List.setIfInBounds_toArray, List.set_cons_succ, List.set_cons_zero]; rfl) ?_
  refine wpG_end (fun w9 hx9 => wpList_nil (gQ_normal ?_))
  go_wp2_with fail
  go_ret
  exact ⟨rfl, Ext.trans ((Ext.refl w1).alloc _) hx9⟩

set_option maxRecDepth 100000 in
set_option maxHeartbeats 4000000 in
/-- Where a predicate first holds. -/
theorem c_IndexFunc (v : Value) (l : List Rng) (g : Nat) (lb : Array Value) (p : Rng → Bool) (w : World) (h : RgRow w v l) (hp : PredR g lb p w) (eg : ∀ args w, (callFunc g args).run Try.prog w = .ok (.enter g args) w) (hn : l.length ≤ 2000000) :
    Calls Try.prog 77 #[v, .func (.func g) #[] lb] w fun e w' => Ext w w' ∧ ((e = .returned (.int .i64 (-1)) ∧ ∀ x ∈ l, p x = false) ∨ ∃ (i : Nat) (hi : i < l.length), e = .returned (.int .i64 (i : Nat)) ∧ p l[i] = true ∧ ∀ j (a : j < l.length), j < i → p l[j] = false) := by
  obtain ⟨pp, cap, rfl⟩ : ∃ p cap, v = .slice p l.length cap := by obtain ⟨p, cap, e, _⟩ := h; exact ⟨p, cap, e⟩
  go_enter Try.func77, Try.ntmps77
  go_wp2_with fail
  go_loopw [5, 8] (fun _ k w' => ∃ i : Nat, k = .int .i64 (i : Nat) ∧ i ≤ l.length ∧ Hid (∀ j (a : j < l.length), j < i → p l[j] = false) ∧ Ext w w') (fun _ k _ => l.length + 1 - (intOf k).toNat)
  case atStart => exact ⟨0, rfl, by omega, Lib.hid (fun j _ h => by omega), Ext.refl w⟩
  case round =>
    obtain ⟨i, rfl, hi, hsame, hx⟩ := hrel
    by_cases hlt : i < l.length
    · obtain ⟨b1, o1, rfl, hc1⟩ := (h.mono hx).at (by intro e; rw [e] at hlt; simp at hlt)
      obtain ⟨a1, a2, a3⟩ := hc1 i hlt
      obtain ⟨x, hxe⟩ : ∃ x, l[i] = x := ⟨_, rfl⟩
      rw [hxe] at a1 a2 a3
      have HXE := Lib.hid hxe
      have hd : decide (i < l.length) = true := decide_eq_true hlt
      have i1 : ((i : Nat) : Int) < (l.length : Nat) := by omega
      clear hxe hc1
      go_wp2_with fail
      refine (hp x _ hx).mono ?_
      rintro e w6 ⟨rfl, hx6⟩
      obtain ⟨pb, hpb⟩ : ∃ pb, p x = pb := ⟨_, rfl⟩
      rw [hpb]
      have HPB := Lib.hid hpb
      clear hpb
      rcases Bool.eq_false_or_eq_true pb with rfl | rfl
      · go_wp2_with fail
        go_ret
        exact ⟨Ext.trans hx hx6, .inr ⟨i, hlt, rfl, by rw [HXE.out]; exact HPB.out, hsame.out⟩⟩
      · go_wp2_with fail
        refine ⟨⟨i + 1, by simp, by omega, Lib.hid (fun j a h => ?_), Ext.trans hx hx6⟩, by simp [intOf]; omega⟩
        rcases Nat.lt_succ_iff_lt_or_eq.1 h with h | h
        · exact hsame.out j a h
        · subst h
          rw [HXE.out]
          exact HPB.out
    · have hd : decide (i < l.length) = false := decide_eq_false hlt
      go_wp2_with fail
      go_ret
      refine ⟨hx, .inl ⟨rfl, fun x hx => ?_⟩⟩
      obtain ⟨j, hj, rfl⟩ := List.mem_iff_getElem.1 hx
      exact hsame.out j hj (by omega)
theorem rgCells_take_drop (m : List Rng) (i : Nat) (h : i ≤ m.length) : (rgCells m).take (i * 3) = rgCells (m.take i) := by
  conv => lhs; rw [← List.take_append_drop i m, rgCells_append]
  rw [List.take_append_of_le_length (by rw [rgCells_length, List.length_take]; omega), List.take_of_length_le (by rw [rgCells_length, List.length_take]; omega)]
/-- One range laid over another. -/
theorem rgCells_set (m : List Rng) (i : Nat) (x : Rng) (h : i < m.length) : (((rgCells m).set (i * 3) (.int .i32 x.lo)).set (i * 3 + 1) (.int .i32 x.hi)).set (i * 3 + 2) (.int .i64 x.cl) = rgCells (m.set i x) := by
  obtain ⟨pre, y, t, rfl, rfl⟩ : ∃ pre y t, m = pre ++ y :: t ∧ pre.length = i := ⟨m.take i, m[i], m.drop (i + 1), by rw [← List.drop_eq_getElem_cons h, List.take_append_drop], by rw [List.length_take]; omega⟩
  have e : rgCells (pre ++ y :: t) = rgCells pre ++ (rgV y ++ rgCells t) := by rw [rgCells_append]; rfl
  have e2 : (pre ++ y :: t).set pre.length x = pre ++ x :: t := by simp
  have e3 : rgCells (pre ++ x :: t) = rgCells pre ++ (rgV x ++ rgCells t) := by rw [rgCells_append]; rfl
  have hl := rgCells_length pre
  rw [e2, e, e3]
  rw [List.set_append_right _ _ (by omega), List.set_append_right _ _ (by omega), List.set_append_right _ _ (by omega), hl]
  congr 1
  rw [show pre.length * 3 - pre.length * 3 = 0 from by omega, show pre.length * 3 + 1 - pre.length * 3 = 1 from by omega, show pre.length * 3 + 2 - pre.length * 3 = 2 from by omega]
  rfl

theorem own_setCells {n₀ size n cap gb : Nat} {e : TypeId} {xs : List Value} : ∀ (zs : List Value) (o : Nat) (w : World), w.ownsRow n₀ e size (.slice (some ⟨gb, 0, none⟩) n cap) n xs → xs.length ≤ o →
    (w.setCells gb o zs).ownsRow n₀ e size (.slice (some ⟨gb, 0, none⟩) n cap) n xs ∧ Below n₀ w (w.setCells gb o zs)
  | [], _, w, h, _ => ⟨h, Below.refl _ _⟩
  | v :: r, o, w, h, ho => by
    obtain ⟨h1, h2⟩ := h.stored o v
    rw [List.set_eq_of_length_le ho] at h1
    obtain ⟨h3, h4⟩ := own_setCells r (o + 1) _ h1 (by omega)
    refine ⟨h3, Below.trans ?_ h4⟩
    have hg := h.lt gb rfl
    exact (Below.refl n₀ w).grown h2 (by omega) (fun k e => by cases e; exact hg.1)
theorem own_prefix {w : World} {n₀ size n cap g k : Nat} {e : TypeId} {xs : List Value} (h : w.ownsRow n₀ e size (.slice (some ⟨g, 0, none⟩) n cap) n xs) (hk : k ≤ n) : w.ownsRow n₀ e size (.slice (some ⟨g, 0, none⟩) k cap) k (xs.take (k * size)) := by
  have hle : k * size ≤ n * size := Nat.mul_le_mul_right size hk
  refine ⟨by rw [List.length_take, h.1]; omega, ?_⟩
  rcases h.2 with ⟨h', _⟩ | ⟨g', cap', cur, h', hb, hg, hnc, hcm, hcs, htake⟩
  · cases h'
  · cases h'
    refine .inr ⟨g, cap, cur, rfl, hb, hg, by omega, hcm, hcs, ?_⟩
    rw [← htake, List.take_take, Nat.min_eq_left hle]
theorem wpList_clear32 {ops : Array Oper} {rest : List Oper} {o : Oper} {a : Act} {w : World} {Q : Exit → Act → World → Prop} (hg : o.guard = none) (x : Operand) (ho : o.op = .call { callee := .builtin .clear, args := #[x], argTypes := #[25] })
    {b off n c : Nat} (hx : a.eval x = .slice (some ⟨b, off, none⟩) n c) (hn : 0 < n) (hc : ∀ j, j < n * 3 → (w.cell? ⟨b, off + j, none⟩).isSome = true) (hf : ∀ j, j < n * 3 → w.frozen? ⟨b, off + j, none⟩ = false)
    (hK : ∀ zs, wpList Try.prog ops Q rest (a.put o.dst (.tuple #[])) (w.setCells b off zs)) : wpList Try.prog ops Q (o :: rest) a w := by
  refine wpList_plain hg fun K' hK' => ?_
  have hv : (zeroValue 32).run Try.prog w = .ok (.agg #[.int .i32 0, .int .i32 0, .int .i64 0]) w := Try.zeroValue32 w
  have hlen : (Builtin.zeroCells (Value.agg #[.int .i32 0, .int .i32 0, .int .i64 0]).cells n).toList.length = n * 3 := by
    simp [Builtin.zeroCells, Value.cells]
  have hone : ∀ v ∈ (Builtin.zeroCells (Value.agg #[.int .i32 0, .int .i32 0, .int .i64 0]).cells n).toList, v.oneCell' = true := by
    intro v hv
    simp [Builtin.zeroCells, Value.cells] at hv
    obtain ⟨j, hj, rfl⟩ := hv
    have h3 : j % 3 = 0 ∨ j % 3 = 1 ∨ j % 3 = 2 := by omega
    rcases h3 with h | h | h <;> simp [h] <;> rfl
  have hst := run_storeCells_cells (P := Try.prog) b off (Builtin.zeroCells (Value.agg #[.int .i32 0, .int .i32 0, .int .i64 0]).cells n).toList 0 w (by rw [hlen]; simpa using hc) (by rw [hlen]; simpa using hf) hone
  simp only [Nat.add_zero] at hst
  obtain ⟨m, rfl⟩ : ∃ m, n = m + 1 := ⟨n - 1, by omega⟩
  have hrun : (Builtin.clear_ #[25] o.type #[.slice (some ⟨b, off, none⟩) (m + 1) c]).run Try.prog w = .ok (.tuple #[]) (w.setCells b off (Builtin.zeroCells (Value.agg #[.int .i32 0, .int .i32 0, .int .i64 0]).cells (m + 1)).toList) := by
    simp [Builtin.clear_, run_underlying Try.underlying25, hv, hst]
  unfold Oper.wp
  simp [execOp, ho, resolve, invoke, builtin, hx, hrun, Result.andThen]
  exact hK' _ _ (hK _)

set_option maxRecDepth 100000 in
set_option maxHeartbeats 4000000 in
/-- A row without those of which a predicate holds. -/
theorem c_DeleteFunc (v : Value) (l : List Rng) (g : Nat) (lb : Array Value) (p : Rng → Bool) (n₀ : Nat) (w : World) (h : w.ownsRow n₀ 32 3 v l.length (rgCells l)) (h0 : n₀ ≤ w.heap.size)
    (hp : ∀ w', Below n₀ w w' → PredR g lb p w') (eg : ∀ args w, (callFunc g args).run Try.prog w = .ok (.enter g args) w) (hn : l.length ≤ 2000000) :
    Calls Try.prog 43 #[v, .func (.func g) #[] lb] w fun e w' => ∃ v', e = .returned v' ∧ w'.ownsRow n₀ 32 3 v' (l.filter (fun x => !p x)).length (rgCells (l.filter (fun x => !p x))) ∧ Below n₀ w w' := by
  have hrg := RgRow.of_own h
  go_enter Try.func43, Try.ntmps43
  go_wp2_with fail
  refine (c_IndexFunc v l g lb p w hrg (hp w (Below.refl _ _)) eg hn).mono ?_
  rintro e w1 ⟨hx1, (⟨rfl, hall⟩ | ⟨i, hi, rfl, hpi, hpj⟩)⟩
  · have hf : l.filter (fun x => !p x) = l := List.filter_eq_self.2 (fun x hx => by simp [hall x hx])
    have HF := Lib.hid hf
    have h1 := ownsRow_ext h hx1
    clear hf hall
    go_wp2_with fail
    go_ret
    exact ⟨v, rfl, by rw [HF.out]; exact h1, Below.mono hx1 h0⟩
  · obtain ⟨gb, cap, rfl⟩ := ownsRow_pos h (by omega)
    have h1 := ownsRow_ext h hx1
    have HPI := Lib.hid hpi
    have HPJ := Lib.hid hpj
    clear hpi hpj
    go_wp2_with fail
    go_loopw [5, 6, 7] (fun a b _ w' => ∃ (i j : Nat) (m : List Rng), a = .int .i64 (i : Nat) ∧ b = .int .i64 (j : Nat) ∧ i < j ∧ j ≤ l.length ∧ m.length = l.length ∧ Hid (m.take i = (l.take j).filter (fun x => !p x) ∧ m.drop j = l.drop j) ∧ w'.ownsRow n₀ 32 3 (.slice (some ⟨gb, 0, none⟩) l.length cap) l.length (rgCells m) ∧ Below n₀ w w') (fun _ b _ _ => l.length + 1 - (intOf b).toNat)
    case atStart =>
      refine ⟨i, i + 1, l, rfl, by simp, by omega, by omega, rfl, Lib.hid ⟨?_, rfl⟩, h1, Below.mono hx1 h0⟩
      rw [List.take_succ_eq_append_getElem hi, List.filter_append, List.filter_eq_self.2 (fun x hx => by
        obtain ⟨j, hj, rfl⟩ := List.mem_iff_getElem.1 hx
        rw [List.length_take] at hj
        rw [List.getElem_take]
        simp [HPJ.out j (by omega) (by omega)])]
      simp [HPI.out]
    case round =>
      obtain ⟨i, j, m, rfl, rfl, hij, hj, hml, hm, hrow, hbl⟩ := hrel
      by_cases hlt : j < l.length
      · obtain ⟨x, hxe⟩ : ∃ x, l[j] = x := ⟨_, rfl⟩
        have hmx : m = m.take j ++ x :: m.drop (j + 1) := by
          have e : m[j]'(by omega) = x := by
            have e1 : (m.drop j)[0]? = (l.drop j)[0]? := by rw [hm.out.2]
            rw [List.getElem?_drop, List.getElem?_drop, List.getElem?_eq_getElem (by omega), List.getElem?_eq_getElem (by omega)] at e1
            simpa [hxe] using e1
          rw [← e, ← List.drop_eq_getElem_cons (by omega), List.take_append_drop]
        obtain ⟨a1, a2, a3⟩ := rgCells_get (m.take j) x (m.drop (j + 1))
        rw [← hmx, List.length_take, Nat.min_eq_left (by omega)] at a1 a2 a3
        have c1 := (hrow.cellAt (j * 3) (by omega)).trans a1
        have c2 := (hrow.cellAt (j * 3 + 1) (by omega)).trans a2
        have c3 := (hrow.cellAt (j * 3 + 2) (by omega)).trans a3
        have HXE := Lib.hid hxe
        have hd : decide (j < l.length) = true := decide_eq_true hlt
        have i1 : ((j : Nat) : Int) < (l.length : Nat) := by omega
        have i2 : ((i : Nat) : Int) < (l.length : Nat) := by omega
        clear hxe hmx a1 a2 a3
        have hbl2 : Below n₀ w (wr.alloc (.cells #[.int .i32 x.lo, .int .i32 x.hi, .int .i64 x.cl] 32)) := hbl.alloc (by have := hbl.size; omega) _
        have hbk := World.alloc_heap_new wr (.cells #[.int .i32 x.lo, .int .i32 x.hi, .int .i64 x.cl] 32)
        have hrow2 := ownsRow_ext hrow ((Ext.refl wr).alloc (.cells #[.int .i32 x.lo, .int .i32 x.hi, .int .i64 x.cl] 32))
        go_wp2_with fail
        refine (hp _ hbl2 x _ (Ext.refl _)).mono ?_
        rintro e w6 ⟨rfl, hx6⟩
        have hbk6 := hx6.blk hbk
        have hrow6 := ownsRow_ext hrow2 hx6
        have hbl6 : Below n₀ w w6 := hbl2.trans (Below.mono hx6 (by have := hbl2.size; omega))
        obtain ⟨pb, hpb⟩ : ∃ pb, p x = pb := ⟨_, rfl⟩
        rw [hpb]
        have hfil : (l.take (j + 1)).filter (fun x => !p x) = (l.take j).filter (fun x => !p x) ++ (if pb = true then [] else [x]) := by
          rw [List.take_succ_eq_append_getElem hlt, List.filter_append, HXE.out]
          congr 1
          cases pb <;> simp [hpb]
        have HF := Lib.hid hfil
        have k1 := cell_blk hbk6 0
        have k2 := cell_blk hbk6 1
        have k3 := cell_blk hbk6 2
        simp only [List.getElem?_toArray, List.getElem?_cons_succ, List.getElem?_cons_zero] at k1 k2 k3
        clear hpb hfil hrow hrow2 hbk
        rcases Bool.eq_false_or_eq_true pb with rfl | rfl
        · go_wp2_with fail
          go_roundw
          case rel =>
            refine ⟨_, _, _, _, _, _, _, _, _, _, _, _, _, _, _, _, _, _, _, _, _, _, _, ⟨i, j + 1, m, rfl, by simp, by omega, by omega, hml, Lib.hid ⟨?_, ?_⟩, hrow6, hbl6⟩, rfl⟩
            · rw [HF.out, hm.out.1]; simp
            · have := congrArg (List.drop 1) hm.out.2
              simpa [List.drop_drop] using this
          case measure =>
            show l.length + 1 - (intOf (.int .i64 ((j : Nat) + 1 : Int))).toNat < l.length + 1 - (intOf (.int .i64 ((j : Nat) : Int))).toNat
            simp [intOf]
            omega
        · obtain ⟨y, hye⟩ : ∃ y, m[i]'(by omega) = y := ⟨_, rfl⟩
          have hmy : m = m.take i ++ y :: m.drop (i + 1) := by rw [← hye, ← List.drop_eq_getElem_cons (by omega), List.take_append_drop]
          obtain ⟨a1, a2, a3⟩ := rgCells_get (m.take i) y (m.drop (i + 1))
          rw [← hmy, List.length_take, Nat.min_eq_left (by omega)] at a1 a2 a3
          have d1 := (hrow6.cellAt (i * 3) (by omega)).trans a1
          have d2 := (hrow6.cellAt (i * 3 + 1) (by omega)).trans a2
          have d3 := (hrow6.cellAt (i * 3 + 2) (by omega)).trans a3
          have e1 := hrow6.frozenAt (i * 3)
          have e2 := hrow6.frozenAt (i * 3 + 1)
          have e3 := hrow6.frozenAt (i * 3 + 2)
          obtain ⟨s1, g1⟩ := hrow6.stored (i * 3) (.int .i32 x.lo)
          obtain ⟨s2, g2⟩ := s1.stored (i * 3 + 1) (.int .i32 x.hi)
          obtain ⟨s3, g3⟩ := s2.stored (i * 3 + 2) (.int .i64 x.cl)
          rw [rgCells_set m i x (by omega)] at s3
          have hgl := hrow6.lt gb rfl
          have hb1 := hbl6.grown g1 (by have := hbl6.size; omega) (fun k e => by cases e; exact hgl.1)
          have hb2 := hb1.grown g2 (by have := hb1.size; omega) (fun k e => by cases e; exact hgl.1)
          have hb3 := hb2.grown g3 (by have := hb2.size; omega) (fun k e => by cases e; exact hgl.1)
          clear hye hmy a1 a2 a3 s1 s2 g1 g2 g3 hb1 hb2
          go_wp2_with fail
          go_roundw
          case rel =>
            refine ⟨_, _, _, _, _, _, _, _, _, _, _, _, _, _, _, _, _, _, _, _, _, _, _, ⟨i + 1, j + 1, m.set i x, by simp, by simp, by omega, by omega, by simp [hml], Lib.hid ⟨?_, ?_⟩, s3, hb3⟩, rfl⟩
            · rw [HF.out, ← hm.out.1]
              have hi2 : i < (m.set i x).length := by simp; omega
              rw [List.take_succ_eq_append_getElem hi2]
              simp [List.take_set]
              exact List.set_eq_of_length_le (by rw [List.length_take]; omega)
            · rw [List.drop_set_of_lt (by omega)]
              have := congrArg (List.drop 1) hm.out.2
              simpa [List.drop_drop] using this
          case measure =>
            show l.length + 1 - (intOf (.int .i64 ((j : Nat) + 1 : Int))).toNat < l.length + 1 - (intOf (.int .i64 ((j : Nat) : Int))).toNat
            simp [intOf]
            omega
      · have hd : decide (j < l.length) = false := decide_eq_false hlt
        have i1 : ((i : Nat) : Int) ≤ (l.length : Nat) := by omega
        have hcap : l.length ≤ cap := by
          rcases hrow.2 with ⟨h', _⟩ | ⟨g', cap', cur, h', _, _, hnc, _⟩
          · cases h'
          · cases h'; exact hnc
        have hci : ¬ cap = i := by omega
        have hc : Hid (∀ k, k < (l.length - i) * 3 → (wr.cell? ⟨gb, i * 3 + k, none⟩).isSome = true) := Lib.hid fun k hk => by
          rw [hrow.cellAt (i * 3 + k) (by omega), List.getElem?_eq_getElem (by rw [rgCells_length, hml]; omega)]
          rfl
        have hf : Hid (∀ k, k < (l.length - i) * 3 → wr.frozen? ⟨gb, i * 3 + k, none⟩ = false) := Lib.hid fun k _ => hrow.frozenAt (i * 3 + k)
        have hpre := own_prefix hrow (k := i) (by omega)
        rw [rgCells_take_drop m i (by omega), hm.out.1, List.take_of_length_le (by omega)] at hpre
        have hfl : (l.filter (fun x => !p x)).length = i := by
          have := congrArg List.length hm.out.1
          rw [List.length_take, List.take_of_length_le (by omega)] at this
          omega
        have HFL := Lib.hid hfl
        clear hfl
        go_wp2_with (refine wpList_clear32 rfl (.tmp 38) rfl rfl (by omega) hc.out hf.out ?_; intro zs)
        go_ret
        obtain ⟨hp1, hp2⟩ := own_setCells zs (i * 3) wr hpre (by rw [rgCells_length, HFL.out]; exact Nat.le_refl _)
        exact ⟨_, rfl, by rw [HFL.out]; exact hp1, hbl.trans hp2⟩

theorem own_lower {w : World} {n₀ n₁ size n : Nat} {e : TypeId} {v : Value} {xs : List Value} (h : w.ownsRow n₁ e size v n xs) (hn : n₀ ≤ n₁) : w.ownsRow n₀ e size v n xs := by
  refine ⟨h.1, ?_⟩
  rcases h.2 with h2 | ⟨g, cap, cur, e1, a1, a2⟩
  · exact .inl h2
  · exact .inr ⟨g, cap, cur, e1, Nat.le_trans hn a1, a2⟩
theorem c_RangesNil (w : World) : Calls Try.prog 14 #[.pointer none] w fun e w' => e = .returned (.slice none 0 0) ∧ Ext w w' := by
  go_enter Try.func14, Try.ntmps14
  go_wp2_with fail
  go_ret
  exact ⟨rfl, (Ext.refl w).alloc _⟩
/-- Ranges: those runs whose class is not the rest's, in memory of the call's own. -/
theorem c_Ranges {T : Nat} {rest : Int} {f : Int → Int} {U : List (List Int)} {ix : List Nat} {ob oc ub uc : Nat} (w : World) (h : Tab w T rest f U ix ob oc ub uc) :
    Calls Try.prog 14 #[.pointer (some ⟨T, 0, none⟩)] w fun e w' => ∃ v l, e = .returned v ∧ RunsFrom f 0 1114112 l ∧ w'.ownsRow w.heap.size 32 3 v (l.filter (fun x => !(x.cl == rest))).length (rgCells (l.filter (fun x => !(x.cl == rest)))) ∧ Ext w w' := by
  have hb := Boxed.new w 27 (.pointer (some ⟨T, 0, none⟩))
  have hx := (Ext.refl w).alloc (.cells #[.pointer (some ⟨T, 0, none⟩)] 27)
  have h1 := h.ext hx
  have cb := hb.cell
  go_enter Try.func14, Try.ntmps14
  go_wp2_with fail
  refine (c_all _ h1).mono ?_
  rintro e w1 ⟨v, l, rfl, hr, ho, hx1⟩
  have hb1 := hb.ext hx1
  have h2 := h1.ext hx1
  have hle := hr.le
  go_wp2_with fail
  rw [World.size_alloc] at ho
  refine (c_DeleteFunc v l 45 #[.pointer (some ⟨w.heap.size, 0, none⟩)] (fun x => x.cl == rest) (w.heap.size + 1) w1 ho (by have := hx1.sz; simp at this; exact this) (fun w' hbl => ?_) (enters_of Try.func45 (by kernel_rfl) rfl) (by omega)).mono ?_
  · have hxw : Ext w w' := Below.trans (Ext.trans hx hx1) (Below.mono hbl (by omega))
    refine c_notRest w' (h.ext hxw) ?_
    exact (hbl.block w.heap.size (by omega)).trans hb1
  · rintro e w2 ⟨v', rfl, ho2, hbl⟩
    have hxw : Ext w w2 := Below.trans (Ext.trans hx hx1) (Below.mono hbl (by omega))
    go_wp2_with fail
    go_ret
    exact ⟨v', l, rfl, hr, own_lower ho2 (by omega), hxw⟩
end Go.Proofs.Ytbbemipidkhmfaa
