/-
  What the walks share: rows of the call's own; what stays where one block turns; how a call ends.
-/
import Derived.Shelf.Abstract
import Derived.Maps.AppendAt
import Derived.Deep.AppendLies
import Derived.Laws.OwnMore
import Derived.Test.YtlmkbldiicbejaaGreatDoorWalkA
import Derived.Test.YtlmkbldiicbejaaGreatDoorPlans
namespace Go.Proofs.YtlmkbldiicbejaaGreatDoor
open Go.RowKit Go.Rp Go.Maps

theorem own_lower {W : World} {n₀ n : Nat} {e : TypeId} {size : Nat} {v : Value} {k : Nat} {xs : List Value} (h : W.ownsRow n e size v k xs) (hn : n₀ ≤ n) : W.ownsRow n₀ e size v k xs := by
  obtain ⟨h1, h2⟩ := h
  refine ⟨h1, h2.imp id ?_⟩
  rintro ⟨g, cap, cur, rfl, hb, h3⟩
  exact ⟨g, cap, cur, rfl, Nat.le_trans hn hb, h3⟩
theorem own_slice {W : World} {n₀ : Nat} {e : TypeId} {size : Nat} {v : Value} {k : Nat} {xs : List Value} (h : W.ownsRow n₀ e size v k xs) : ∃ p cap, v = .slice p k cap := by
  rcases h.2 with ⟨rfl, h0⟩ | ⟨g, cap, cur, rfl, _⟩
  · exact ⟨none, 0, by rw [h0]⟩
  · exact ⟨_, cap, rfl⟩
/-- The cells of a slice that owns some. -/
theorem own_at {W : World} {n₀ : Nat} {e : TypeId} {size : Nat} {p : Option Addr} {k cap : Nat} {xs : List Value} (h : W.ownsRow n₀ e size (.slice p k cap) k xs) (hk : 0 < k) : ∃ g, p = some ⟨g, 0, none⟩ ∧ n₀ ≤ g ∧ g < W.heap.size ∧ ∀ j, j < k * size → W.cell? ⟨g, j, none⟩ = xs[j]? := by
  have h' := h
  rcases h.2 with ⟨e, h0⟩ | ⟨g, cap', cur, e, hg, hb, _⟩
  · omega
  · simp only [Value.slice.injEq] at e
    obtain ⟨rfl, -, rfl⟩ := e
    exact ⟨g, rfl, hg, blk_lt hb, fun j hj => h'.cellAt j hj⟩
theorem keeps_ext {W W' : World} (h : Ext W W') : KeepsOthers W W' := by
  have hg : W.grownBy W' none := ⟨h.os, h.tape, h.output, h.size, fun k hk _ => h.block k hk⟩
  exact KeepsOthers.of_grownBy hg fun j o e => by cases e
/-- All blocks but those of rows of one kind stay. -/
def KeepTy (e : TypeId) (W W' : World) : Prop := ∀ (b : Nat) (o : Obj), W.heap[b]? = some o → (∀ c z, o ≠ .cells c e z) → W'.heap[b]? = some o
theorem KeepTy.of_ext {e : TypeId} {W W' : World} (h : Ext W W') : KeepTy e W W' := fun b o hb _ => (h.block b (by
  apply Decidable.byContradiction
  intro hge
  rw [Array.getElem?_eq_none (by omega)] at hb
  cases hb)).trans hb
theorem KeepTy.trans {e : TypeId} {A B C : World} (h : KeepTy e A B) (k : KeepTy e B C) : KeepTy e A C := fun b o hb hn => k b o (h b o hb hn) hn
theorem KeepTy.of_grown {e : TypeId} {W W' : World} {base size n : Nat} {v : Value} {xs : List Value} (hown : W.ownsRow base e size v n xs) (hg : W.grownBy W' v.ownBlock) : KeepTy e W W' := fun b o hb hn => by
  refine (hg.block b ?_ ?_).trans hb
  · apply Decidable.byContradiction
    intro hge
    rw [Array.getElem?_eq_none (by omega)] at hb
    cases hb
  · intro eb
    rcases hown.2 with ⟨rfl, _⟩ | ⟨g, cap, cur, rfl, _, hgb, _⟩
    · simp [Value.ownBlock] at eb
    · obtain rfl : b = g := by simpa [Value.ownBlock] using eb
      rw [hb] at hgb
      cases hgb
      exact hn _ _ rfl
section
variable {P : Program} {ops : Array Oper} {rest : List Oper} {o : Oper} {a : Act} {Q : Exit → Act → World → Prop}
/-- One element, just laid. -/
theorem wpList_app (hgd : o.guard = none) (s x : Operand) (t : TypeId) (ho : o.op = .call { callee := .builtin .append, args := #[s, x], argTypes := #[t, t] })
    (e : TypeId) (i : TypeInfo) (z : Value) (size bytes : Nat) (ht : P.underlying t = some (.slice e)) (hi : P.info? e = some i) (hz : i.zero = some z)
    (hsize : i.size = size) (hby : i.bytes = bytes) (hzs : z.cells.size = size) (hsz : 0 < size)
    {W0 wr : World} {v : Value} {n : Nat} {xs : List Value} (hs : a.eval s = v) (hown : wr.ownsRow W0.heap.size e size v n xs) (hx : Ext W0 wr)
    (news : List Value) (hxv : a.eval x = .slice (some ⟨wr.heap.size, 0, none⟩) 1 1) (hl : news.length = size) (h1 : ∀ u ∈ news, u.oneCell' = true)
    (hn : n ≤ 100000000) (hb : bytes ≤ 1000)
    (h : ∀ v' w', w'.ownsRow W0.heap.size e size v' (n + 1) (xs ++ news) → Ext W0 w' → KeepTy e wr w' → wpList P ops Q rest (a.put o.dst v') w') : wpList P ops Q (o :: rest) a (wr.alloc (.cells news.toArray e)) := by
  have hx1 := hx.alloc (.cells news.toArray e)
  have hown1 := ownsRow_ext hown ((Ext.refl wr).alloc (.cells news.toArray e))
  have hsz1 : W0.heap.size ≤ (wr.alloc (.cells news.toArray e)).heap.size := hx1.sz
  refine wpList_append_own _ hgd s x t ho W0.heap.size e i z size bytes ht hi hz hsize hby hzs hsz v n xs hs hown1 ⟨wr.heap.size, 0, none⟩ 1 1 news hxv (by omega) (World.news_of_block (World.alloc_heap_new wr (.cells news.toArray e))) h1 (by unfold maxLen; omega) (Nat.le_trans (Nat.mul_le_mul (show n + 1 ≤ 100000001 by omega) hb) (by decide)) hsz1 ?_
  intro v' w' h2 h3 _
  exact h v' w' h2 (Below.grown hx1 h3 hsz1 (fun k ek => (hown1.lt k ek).1)) ((KeepTy.of_ext ((Ext.refl wr).alloc _)).trans (KeepTy.of_grown hown1 h3))
/-- A row of cells that stand somewhere. -/
theorem wpList_apps (hgd : o.guard = none) (s x : Operand) (t : TypeId) (ho : o.op = .call { callee := .builtin .append, args := #[s, x], argTypes := #[t, t] })
    (e : TypeId) (i : TypeInfo) (z : Value) (size bytes : Nat) (ht : P.underlying t = some (.slice e)) (hi : P.info? e = some i) (hz : i.zero = some z)
    (hsize : i.size = size) (hby : i.bytes = bytes) (hzs : z.cells.size = size) (hsz : 0 < size)
    {W0 wr : World} {v : Value} {n : Nat} {xs : List Value} (hs : a.eval s = v) (hown : wr.ownsRow W0.heap.size e size v n xs) (hx : Ext W0 wr)
    (news : List Value) (g f m c : Nat) (hxv : a.eval x = .slice (some ⟨g, f, none⟩) m c) (hl : news.length = m * size) (hc : ∀ j (h : j < news.length), wr.cell? ⟨g, f + j, none⟩ = some news[j]) (h1 : ∀ u ∈ news, u.oneCell' = true)
    (hn : n + m ≤ 100000000) (hb : bytes ≤ 1000)
    (h : ∀ v' w', w'.ownsRow W0.heap.size e size v' (n + m) (xs ++ news) → Ext W0 w' → KeepTy e wr w' → wpList P ops Q rest (a.put o.dst v') w') : wpList P ops Q (o :: rest) a wr := by
  refine wpList_append_own _ hgd s x t ho W0.heap.size e i z size bytes ht hi hz hsize hby hzs hsz v n xs hs hown ⟨g, f, none⟩ m c news hxv hl (fun j u hu => ?_) h1 (by unfold maxLen; omega) (Nat.le_trans (Nat.mul_le_mul (show n + m ≤ 100000000 by omega) hb) (by decide)) hx.sz ?_
  · obtain ⟨hj, e⟩ := List.getElem?_eq_some_iff.1 hu
    have := hc j hj
    rw [e] at this
    rw [Addr.add_lit]
    exact this
  · intro v' w' h2 h3 _
    exact h v' w' h2 (Below.grown hx h3 hx.sz (fun k ek => (hown.lt k ek).1)) (KeepTy.of_grown hown h3)
/-- One element, just laid in a block of some number. -/
theorem wpList_appN (hgd : o.guard = none) (s x : Operand) (t : TypeId) (ho : o.op = .call { callee := .builtin .append, args := #[s, x], argTypes := #[t, t] })
    (e : TypeId) (i : TypeInfo) (z : Value) (size bytes : Nat) (ht : P.underlying t = some (.slice e)) (hi : P.info? e = some i) (hz : i.zero = some z)
    (hsize : i.size = size) (hby : i.bytes = bytes) (hzs : z.cells.size = size) (hsz : 0 < size)
    {W0 wr : World} {v : Value} {n : Nat} {xs : List Value} (hs : a.eval s = v) (hown : wr.ownsRow W0.heap.size e size v n xs) (hx : Ext W0 wr)
    (news : List Value) (nb : Nat) (hnb : nb = wr.heap.size) (hxv : a.eval x = .slice (some ⟨nb, 0, none⟩) 1 1) (hl : news.length = size) (h1 : ∀ u ∈ news, u.oneCell' = true)
    (hn : n ≤ 100000000) (hb : bytes ≤ 1000)
    (h : ∀ v' w', w'.ownsRow W0.heap.size e size v' (n + 1) (xs ++ news) → Ext W0 w' → KeepTy e wr w' → wpList P ops Q rest (a.put o.dst v') w') : wpList P ops Q (o :: rest) a (wr.alloc (.cells news.toArray e)) := by
  subst hnb
  exact wpList_app hgd s x t ho e i z size bytes ht hi hz hsize hby hzs hsz hs hown hx news hxv hl h1 hn hb h
end
theorem len_eq (s : ByteArray) : s.data.toList.length = s.size := by simp
theorem ret_one {P : Program} {fn : Func} {R : Ending → World → Prop} {a : Act} {w : World} {v : Value} {t : Tmp} (hf : fn.results = #[.tmp t]) (hv : a.tmps.getD t undef = v) (hd : a.defers = []) (hR : R (.returned v) w) : bodyPost P fn R .ret a w :=
  bodyPost_ret (by rw [results_tmp hf, hv]) hd hR
theorem ret_two {P : Program} {fn : Func} {R : Ending → World → Prop} {a : Act} {w : World} {v u : Value} {t s : Tmp} (hf : fn.results = #[.tmp t, .tmp s]) (hv : a.tmps.getD t undef = v) (hu : a.tmps.getD s undef = u) (hd : a.defers = [])
    (hR : R (.returned (.tuple #[v, u])) w) : bodyPost P fn R .ret a w :=
  bodyPost_ret (by rw [results_tmp2 hf, hv, hu]) hd hR
theorem toList_extract (s : ByteArray) (i j : Nat) : (s.extract i j).data.toList = (s.data.toList.drop i).take (j - i) := by
  rw [ByteArray.data_extract, Array.toList_extract, List.extract_eq_take_drop]
theorem take_all {l : List UInt8} {n : Nat} (h : l.length ≤ n) : l.take n = l := List.take_of_length_le h
/-- A slice of texts. -/
def StrRow (w : World) (v : Value) (l : List ByteArray) : Prop :=
  ∃ p cap, v = .slice p l.length cap ∧ (l ≠ [] → ∃ b off, p = some ⟨b, off, none⟩ ∧ b < w.heap.size ∧ ∀ i (h : i < l.length), w.cell? ⟨b, off + i, none⟩ = some (.string l[i]))
theorem StrRow.mono {w w' : World} {v : Value} {l : List ByteArray} (hx : Ext w w') (h : StrRow w v l) : StrRow w' v l := by
  obtain ⟨p, cap, rfl, h2⟩ := h
  refine ⟨p, cap, rfl, fun hne => ?_⟩
  obtain ⟨b, off, rfl, hb, hc⟩ := h2 hne
  exact ⟨b, off, rfl, Nat.lt_of_lt_of_le hb hx.sz, fun i hi => hx.cell (hc i hi)⟩
theorem StrRow.form {w : World} {v : Value} {l : List ByteArray} (h : StrRow w v l) : ∃ p cap, v = .slice p l.length cap := by
  obtain ⟨p, cap, rfl, _⟩ := h
  exact ⟨p, cap, rfl⟩
/-- A slice of texts that came in: nil has no room. -/
def StrRowN (w : World) (v : Value) (l : List ByteArray) : Prop := StrRow w v l ∧ ∀ n c, v = .slice none n c → c = 0
theorem cell_lt {W : World} {a : Addr} {v : Value} (h : W.cell? a = some v) : a.block < W.heap.size := by
  rcases Nat.lt_or_ge a.block W.heap.size with h1 | h1
  · exact h1
  · simp [World.cell?, Array.getElem?_eq_none h1] at h
def Apart (v u : Value) : Prop := ∀ j, v.ownBlock = some j → u.ownBlock ≠ some j
theorem Apart.symm {v u : Value} (h : Apart v u) : Apart u v := fun j h1 h2 => h j h2 h1
theorem own_ne {W : World} {B B' : Nat} {e e' : TypeId} {s s' n n' : Nat} {v v' : Value} {xs xs' : List Value} (h : W.ownsRow B e s v n xs) (h' : W.ownsRow B' e' s' v' n' xs') (hne : e ≠ e') : v.ownBlock = none ∨ v.ownBlock ≠ v'.ownBlock := by
  rcases h.2 with ⟨rfl, _⟩ | ⟨g, cap, cur, rfl, _, hgb, _⟩
  · exact .inl rfl
  · refine .inr fun eq => ?_
    rcases h'.2 with ⟨rfl, _⟩ | ⟨g', cap', cur', rfl, _, hgb', _⟩
    · cases eq
    · obtain rfl : g = g' := Option.some.inj eq
      rw [hgb] at hgb'
      cases hgb'
      exact hne rfl
theorem own_ne' {W : World} {B B' : Nat} {e e' : TypeId} {s s' n n' : Nat} {v v' : Value} {xs xs' : List Value} (h : W.ownsRow B e s v n xs) (h' : W.ownsRow B' e' s' v' n' xs') (hne : e ≠ e') {g : Nat} (hg : v.ownBlock = some g) : v'.ownBlock ≠ some g := by
  rcases own_ne h h' hne with h1 | h1
  · rw [h1] at hg; cases hg
  · rw [hg] at h1
    exact fun e => h1 e.symm
section
variable {P : Program} {ops : Array Oper} {rest : List Oper} {o : Oper} {a : Act}
/-- A row grows in a region that draws its order: only its own block may change. -/
theorem wpG_push {S : Addr → Prop} {bs : List Bool} {Q' : Exit → Act → World → Prop} (hgd : o.guard = none) (hQo : ∀ a w, ¬ gQ Q' .outgrown a w) (s x : Operand) (t : TypeId) (ho : o.op = .call { callee := .builtin .append, args := #[s, x], argTypes := #[t, t] })
    (e : TypeId) (i : TypeInfo) (z : Value) (size bytes : Nat) (ht : P.underlying t = some (.slice e)) (hi : P.info? e = some i) (hz : i.zero = some z)
    (hsize : i.size = size) (hby : i.bytes = bytes) (hzs : z.cells.size = size) (hsz : 0 < size)
    {B : Nat} {wr : World} {v : Value} {n : Nat} {xs : List Value} (hs : a.eval s = v) (hown : wr.ownsRow B e size v n xs) (hB : B ≤ wr.heap.size)
    (news : List Value) (g f m c : Nat) (hxv : a.eval x = .slice (some ⟨g, f, none⟩) m c) (hl : news.length = m * size) (hc : ∀ j (h : j < news.length), wr.cell? ⟨g, f + j, none⟩ = some news[j]) (h1 : ∀ u ∈ news, u.oneCell' = true)
    (hS : ∀ ad : Addr, S ad → v.ownBlock ≠ some ad.block)
    (hn : n + m ≤ 100000000) (hb : bytes ≤ 1000)
    (h : ∀ v' w2 w', Ext wr w2 → w'.ownsRow B e size v' (n + m) (xs ++ news) → w2.grownBy w' v.ownBlock → (v'.ownBlock = v.ownBlock ∨ v'.ownBlock = some w2.heap.size) → wpG S P ops Q' bs rest (a.put o.dst v') w') : wpG S P ops Q' (false :: bs) (o :: rest) a wr := by
  intro w2 hx2
  have hw : Region.wanted o (yielded ops a.tmps) = true := by unfold Region.wanted; rw [hgd]
  refine ⟨hw, ?_⟩
  have hown2 := ownsRow_ext hown hx2
  refine wp_alone (ops := #[]) (by unfold Region.wanted; rw [hgd]) hQo ?_
  refine wpList_append_own_at _ hgd s x t ho B e i z size bytes ht hi hz hsize hby hzs hsz v n xs hs hown2 ⟨g, f, none⟩ m c news hxv hl (fun j u hu => ?_) h1 (by unfold maxLen; omega) (Nat.le_trans (Nat.mul_le_mul (show n + m ≤ 100000000 by omega) hb) (by decide)) (Nat.le_trans hB hx2.sz) ?_
  · obtain ⟨hj, e⟩ := List.getElem?_eq_some_iff.1 hu
    have := hx2.cell (hc j hj)
    rw [e] at this
    rw [Addr.add_lit]
    exact this
  · intro v' w' h2 h3 _ h4
    exact ⟨EOn.of_grown h3 (fun ad hS' _ eq => hS ad hS' eq.symm), h v' w2 w' hx2 h2 h3 h4⟩
end
theorem wp_slot {P : Program} {c : Code} {Q : Exit → Act → World → Prop} {tm : Array Value} {d : List Deferred} {w : World} (k : Nat) (s' : ByteArray) {s : ByteArray} (he : tm[k]? = some (.string s)) (hs : s = s') (h : c.wp P Q ⟨tm.setIfInBounds k (.string s'), d⟩ w) : c.wp P Q ⟨tm, d⟩ w := by
  subst hs
  have e : tm.setIfInBounds k (.string s) = tm := by
    apply Array.ext (by simp)
    intro i h1 h2
    rw [Array.getElem_setIfInBounds h2]
    split
    · subst_vars
      rw [Array.getElem?_eq_getElem h2] at he
      exact (Option.some.inj he).symm
    · rfl
  rw [e] at h
  exact h
theorem le_app1 {α : Type} (l : List α) (x : α) {i : Nat} (h : l.length ≤ i) : (l ++ [x]).length ≤ i + 1 := by
  rw [List.length_append]
  exact Nat.add_le_add_right h 1
theorem own_setI {W : World} {B g n c i : Nat} {xs : List Value} (h : W.ownsRow B 3 1 (.slice (some ⟨g, 0, none⟩) n c) n xs) (u : Value) : (W.setCell ⟨g, i, none⟩ u).ownsRow B 3 1 (.slice (some ⟨g, 0, none⟩) n c) n (xs.set i u) := by
  obtain ⟨h1, h2⟩ := h
  refine ⟨by rw [List.length_set]; exact h1, ?_⟩
  rcases h2 with ⟨e, _⟩ | ⟨g', cap, cur, e, hb, hg, hc, hm, hs, ht⟩
  · cases e
  · cases e
    refine .inr ⟨g, c, cur.setIfInBounds i u, rfl, hb, set_blk hg i u, hc, hm, by simpa using hs, ?_⟩
    rw [Array.toList_setIfInBounds, List.take_set, ht]
theorem own_blk {W : World} {B : Nat} {e : TypeId} {s n g c : Nat} {xs : List Value} (h : W.ownsRow B e s (.slice (some ⟨g, 0, none⟩) n c) n xs) : (∃ cur, W.heap[g]? = some (.cells cur e (0, 0))) ∧ True := by
  rcases h.2 with ⟨e, _⟩ | ⟨g', cap, cur, e, _, hg, _⟩
  · cases e
  · cases e
    exact ⟨⟨cur, hg⟩, trivial⟩
theorem own_keepT {W W' : World} {B : Nat} {e e' : TypeId} {s n : Nat} {v : Value} {xs : List Value} (h : W.ownsRow B e s v n xs) (hk : KeepTy e' W W') (hne : e ≠ e') : W'.ownsRow B e s v n xs := by
  obtain ⟨h1, h2⟩ := h
  refine ⟨h1, ?_⟩
  rcases h2 with h2 | ⟨g, cap, cur, e1, hb, hg, h3⟩
  · exact .inl h2
  · exact .inr ⟨g, cap, cur, e1, hb, hk g _ hg (fun c z e2 => by cases e2; exact hne rfl), h3⟩
theorem grown_cell (W : World) (g i : Nat) (v : Value) : W.grownBy (W.setCell ⟨g, i, none⟩ v) (some g) :=
  ⟨rfl, rfl, rfl, (KeepsWalks.setCell W _ v).size, fun k _ hk => Below.heap_setCell _ _ _ k (fun e => hk (by rw [e]))⟩
theorem KeepTy.cell {W : World} {B : Nat} {e : TypeId} {s n : Nat} {xs : List Value} {g c : Nat} (h : W.ownsRow B e s (.slice (some ⟨g, 0, none⟩) n c) n xs) (i : Nat) (u : Value) : KeepTy e W (W.setCell ⟨g, i, none⟩ u) :=
  KeepTy.of_grown h (grown_cell W g i u)
theorem str_inj {a b : List UInt8} (h : Value.string ⟨a.toArray⟩ = .string ⟨b.toArray⟩) : a = b := by
  have h1 : (⟨a.toArray⟩ : ByteArray) = ⟨b.toArray⟩ := Value.string.inj h
  have := congrArg (fun x : ByteArray => x.data.toList) h1
  simpa using this
theorem Ext.drews (w : World) (n : Nat) : Ext w (w.drewN n) := ⟨rfl, rfl, rfl, Nat.le_refl _, fun _ _ => rfl⟩
end Go.Proofs.YtlmkbldiicbejaaGreatDoor
