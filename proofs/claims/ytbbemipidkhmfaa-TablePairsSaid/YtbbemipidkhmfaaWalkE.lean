/-
  A table made of ranges that rise.
-/
import Derived.Carry
import Derived.Test.YtbbemipidkhmfaaWalkD
namespace Go.Proofs.Ytbbemipidkhmfaa
open Go.RowKit Go.Maps

attribute [local go_sem] run_makeMap

theorem KeepA.blk {T mf tb fb n₀ : Nat} {W W' : World} {rest : Int} {ofV : Value} {U : List (List Int)} (h : KeepA T mf W W') (hA : AddSt W n₀ T tb mf fb rest ofV U) {k : Nat} {o : Obj} (hk : W.heap[k]? = some o) (h1 : k ≠ T) (h2 : k ≠ mf) (h3 : ∀ c f, o ≠ .cells c 83 f) : W'.heap[k]? = some o := by
  refine h.2 k o hk h1 h2 fun u hu e => ?_
  obtain ⟨unV, hT, hrow⟩ := hA.un
  rw [cell_blk hT 2] at hu
  simp at hu
  subst hu
  rcases hrow.2 with ⟨q1, _⟩ | ⟨g, c', cur, q1, _, hgb, _⟩
  · rw [q1] at e; simp [Value.ownBlock] at e
  · rw [q1] at e
    obtain rfl : k = g := by simpa [Value.ownBlock] using e
    rw [hgb] at hk
    exact h3 _ _ (Option.some.inj hk).symm
theorem row_blk {W W' : World} {n₀ size n : Nat} {e : TypeId} {v : Value} {xs : List Value} (h : W.ownsRow n₀ e size v n xs) (hk : ∀ g c f, v.ownBlock = some g → W.heap[g]? = some (.cells c e f) → W'.heap[g]? = some (.cells c e f)) : W'.ownsRow n₀ e size v n xs := by
  refine ⟨h.1, ?_⟩
  rcases h.2 with h2 | ⟨g, cap, cur, rfl, a1, a2, a3⟩
  · exact .inl h2
  · exact .inr ⟨g, cap, cur, rfl, a1, hk g _ _ rfl a2, a3⟩
theorem AddSt.ext {T mf tb fb n₀ : Nat} {W W' : World} {rest : Int} {ofV : Value} {U : List (List Int)} (h : AddSt W n₀ T tb mf fb rest ofV U) (hx : Ext W W') : AddSt W' n₀ T tb mf fb rest ofV U := by
  obtain ⟨unV, hT, hrow⟩ := h.un
  exact ⟨h.bt.ext hx, h.bf.ext hx, ⟨unV, hx.blk hT, ownsRow_ext hrow hx⟩, h.mp.ext hx, h.ok, h.le, h.n0.1, h.n0.2.1, Nat.le_trans h.n0.2.2 hx.sz⟩
/-- Another map has been written. -/
theorem AddSt.map {T mf tb fb n₀ ms : Nat} {W W' : World} {rest : Int} {ofV : Value} {U : List (List Int)} {kv : List (Value × Value)} (h : AddSt W n₀ T tb mf fb rest ofV U) (hm : MapIs W ms kv) (hne : ms ≠ mf) (hg : W.grownBy W' (some ms)) : AddSt W' n₀ T tb mf fb rest ofV U := by
  obtain ⟨unV, hT, hrow⟩ := h.un
  obtain ⟨es, ck, hb, _⟩ := hm
  have hcell : ∀ {k c t f}, W.heap[k]? = some (Obj.cells c t f) → some k ≠ some ms := fun hk e => by rw [Option.some.inj e, hb] at hk; cases hk
  refine ⟨h.bt.kept hg (hcell h.bt), h.bf.kept hg (hcell h.bf), ⟨unV, (hg.block T (blk_lt hT) (hcell hT)).trans hT, row_blk hrow fun g c f _ hgb => (hg.block g (blk_lt hgb) (hcell hgb)).trans hgb⟩, h.mp.kept hg (by simpa using (Ne.symm hne)), h.ok, h.le, h.n0.1, h.n0.2.1, Nat.le_trans h.n0.2.2 hg.size⟩
/-- The row of numbers has grown. -/
theorem AddSt.row {T mf tb fb n₀ n : Nat} {W W' : World} {rest : Int} {ofV : Value} {U : List (List Int)} {xs : List Value} (h : AddSt W n₀ T tb mf fb rest ofV U) (hr : W.ownsRow n₀ 84 1 ofV n xs) (hg : W.grownBy W' ofV.ownBlock) : AddSt W' n₀ T tb mf fb rest ofV U := by
  obtain ⟨unV, hT, hrow⟩ := h.un
  obtain ⟨es, ck, hb, he⟩ := h.mp
  have hm : some mf ≠ ofV.ownBlock := by
    intro e2
    rcases hr.2 with ⟨h3, _⟩ | ⟨g, c', cur, h3, _, hgb, _⟩
    · rw [h3] at e2; simp [Value.ownBlock] at e2
    · rw [h3] at e2
      obtain rfl : mf = g := by simpa [Value.ownBlock] using e2
      rw [hgb] at hb
      cases hb
  refine ⟨h.bt.kept hg (row_ne hr h.bt (by decide)), h.bf.kept hg (row_ne hr h.bf (by decide)), ⟨unV, (hg.block T (blk_lt hT) (row_ne hr hT (by decide))).trans hT, row_blk hrow fun g c f _ hgb => (hg.block g (blk_lt hgb) (row_ne hr hgb (by decide))).trans hgb⟩, ⟨es, ck, (hg.block mf (blk_lt hb) hm).trans hb, he⟩, h.ok, h.le, h.n0.1, h.n0.2.1, Nat.le_trans h.n0.2.2 hg.size⟩
/-- The row's slice has been stored. -/
theorem AddSt.setOf {T mf tb fb n₀ : Nat} {W : World} {rest : Int} {ofV : Value} {U : List (List Int)} (h : AddSt W n₀ T tb mf fb rest ofV U) (v' : Value) : AddSt (W.setCell ⟨T, 1, none⟩ v') n₀ T tb mf fb rest v' U := by
  obtain ⟨unV, hT, hrow⟩ := h.un
  obtain ⟨es, ck, hb, he⟩ := h.mp
  have hg := grownBy_setAt W ⟨T, 1, none⟩ v'
  have hTs := set_blk hT 1 v'
  have n1 : some tb ≠ some T := fun e => by
    have h1 : W.heap[tb]? = some (Obj.cells _ _ _) := h.bt
    rw [Option.some.inj e, hT] at h1
    simp at h1
  have n2 : some fb ≠ some T := fun e => by
    have h1 : W.heap[fb]? = some (Obj.cells _ _ _) := h.bf
    rw [Option.some.inj e, hT] at h1
    simp at h1
  have n3 : some mf ≠ some T := fun e => by rw [Option.some.inj e, hT] at hb; cases hb
  exact ⟨h.bt.kept hg n1, h.bf.kept hg n2, ⟨unV, hTs, hrow.kept hg (.inr (row_ne hrow hT (by decide)).symm)⟩, ⟨es, ck, (hg.block mf (blk_lt hb) n3).trans hb, he⟩, h.ok, h.le, h.n0.1, h.n0.2.1, Nat.le_trans h.n0.2.2 hg.size⟩
def cells16 (ix : List Nat) : List Value := ix.map fun k => .int .u16 ((k : Nat) : Int)
def entC (cs : List (Int × Nat)) : List (Value × Value) := cs.map fun p => (.int .i64 p.1, .int .i64 ((p.2 : Nat) : Int))
/-- A table that is being made: the numbers of the blocks so far, the classes whose blocks are known. -/
structure OfSt (W : World) (n₀ T tb mf fb ms : Nat) (rest : Int) (f : Int → Int) (U : List (List Int)) (ix : List Nat) (cs : List (Int × Nat)) : Prop where
  add : ∃ ofV, AddSt W n₀ T tb mf fb rest ofV U ∧ W.ownsRow n₀ 84 1 ofV ix.length (cells16 ix)
  same : MapIs W ms (entC cs)
  csok : ∀ p ∈ cs, 0 ≤ p.1 ∧ p.1 ≤ 255 ∧ U[p.2]? = some (rep p.1)
  ixok : ∀ n (h : n < ix.length), U[ix[n]]? = some (blkOf f n)
  uok : ∀ b ∈ U, ∃ n, n < ix.length ∧ b = blkOf f n
  nod : U.Nodup
  ule : U.length ≤ ix.length
  ms0 : n₀ ≤ ms ∧ ms ≠ mf
/-- The same, where the next block's number is known. -/
structure OfMid (W : World) (n₀ T tb mf fb ms : Nat) (rest : Int) (f : Int → Int) (U : List (List Int)) (ix : List Nat) (cs : List (Int × Nat)) (ofV : Value) (k : Nat) : Prop where
  add : AddSt W n₀ T tb mf fb rest ofV U
  row : W.ownsRow n₀ 84 1 ofV ix.length (cells16 ix)
  same : MapIs W ms (entC cs)
  csok : ∀ p ∈ cs, 0 ≤ p.1 ∧ p.1 ≤ 255 ∧ U[p.2]? = some (rep p.1)
  ixok : ∀ n (h : n < ix.length), U[ix[n]]? = some (blkOf f n)
  uok : ∀ b ∈ U, (∃ n, n < ix.length ∧ b = blkOf f n) ∨ b = blkOf f ix.length
  nod : U.Nodup
  ule : U.length ≤ ix.length + 1
  ms0 : n₀ ≤ ms ∧ ms ≠ mf
  kok : U[k]? = some (blkOf f ix.length)
theorem OfMid.done {W W' : World} {n₀ T tb mf fb ms k : Nat} {rest : Int} {f : Int → Int} {U : List (List Int)} {ix : List Nat} {cs : List (Int × Nat)} {ofV ofV' : Value} (h : OfMid W n₀ T tb mf fb ms rest f U ix cs ofV k)
    (hadd : AddSt W' n₀ T tb mf fb rest ofV' U) (hrow : W'.ownsRow n₀ 84 1 ofV' (ix.length + 1) (cells16 (ix ++ [k]))) (hs : MapIs W' ms (entC cs)) : OfSt W' n₀ T tb mf fb ms rest f U (ix ++ [k]) cs where
  add := ⟨ofV', hadd, by simpa using hrow⟩
  same := hs
  csok := h.csok
  ixok n hn := by
    rw [List.getElem_append]
    split
    · exact h.ixok n _
    · have : n = ix.length := by simp at hn; omega
      subst this
      simpa using h.kok
  uok b hb := by
    rcases h.uok b hb with ⟨m, hm, e⟩ | e
    · exact ⟨m, by simp; omega, e⟩
    · exact ⟨ix.length, by simp, e⟩
  nod := h.nod
  ule := by simpa using h.ule
  ms0 := h.ms0
/-- The class's block is known. -/
theorem OfSt.found {W : World} {n₀ T tb mf fb ms k : Nat} {rest c : Int} {f : Int → Int} {U : List (List Int)} {ix : List Nat} {cs : List (Int × Nat)} (h : OfSt W n₀ T tb mf fb ms rest f U ix cs) (hk : (c, k) ∈ cs) (hc : blkOf f ix.length = rep c) :
    ∃ ofV, OfMid W n₀ T tb mf fb ms rest f U ix cs ofV k := by
  obtain ⟨ofV, ha, hr⟩ := h.add
  exact ⟨ofV, ha, hr, h.same, h.csok, h.ixok, fun b hb => .inl (h.uok b hb), h.nod, by have := h.ule; omega, h.ms0, by rw [hc]; exact (h.csok _ hk).2.2⟩
/-- The block has been laid. -/
theorem OfSt.laid {W W1 W' : World} {n₀ T tb mf fb ms k : Nat} {rest : Int} {f : Int → Int} {U U' : List (List Int)} {ix : List Nat} {cs : List (Int × Nat)} {ofV : Value} (h : OfSt W n₀ T tb mf fb ms rest f U ix cs)
    (ha1 : AddSt W1 n₀ T tb mf fb rest ofV U) (hr1 : W1.ownsRow n₀ 84 1 ofV ix.length (cells16 ix)) (hs1 : MapIs W1 ms (entC cs)) (ha : AddSt W' n₀ T tb mf fb rest ofV U') (hk : U'[k]? = some (blkOf f ix.length))
    (hU : U' = U ∧ blkOf f ix.length ∈ U ∨ U' = U ++ [blkOf f ix.length] ∧ blkOf f ix.length ∉ U) (hkeep : KeepA T mf W1 W') : OfMid W' n₀ T tb mf fb ms rest f U' ix cs ofV k := by
  have hpre : ∀ (j : Nat) b, U[j]? = some b → U'[j]? = some b := by
    intro j b hj
    rcases hU with ⟨rfl, _⟩ | ⟨rfl, _⟩
    · exact hj
    · rw [List.getElem?_append_left (List.getElem?_eq_some_iff.1 hj).1]; exact hj
  obtain ⟨es, ck, hm, he⟩ := hs1
  have hTc := ha1.un
  obtain ⟨unV, hT, _⟩ := hTc
  refine ⟨ha, ?_, ⟨es, ck, ?_, he⟩, fun p hp => ?_, fun n hn => ?_, fun b hb => ?_, ?_, ?_, h.ms0, hk⟩
  · refine row_blk hr1 fun g c fr hg hgb => hkeep.blk ha1 hgb ?_ ?_ ?_
    · rintro rfl
      rw [hT] at hgb
      simp at hgb
    · rintro rfl
      obtain ⟨es', ck', hm', _⟩ := ha1.mp
      rw [hm'] at hgb
      cases hgb
    · intro c' f' e
      injection e with _ e2 _
      exact absurd e2 (by decide)
  · refine hkeep.blk ha1 hm ?_ h.ms0.2 (by intro c f' e; cases e)
    rintro rfl
    rw [hT] at hm
    cases hm
  · obtain ⟨a1, a2, a3⟩ := h.csok p hp
    exact ⟨a1, a2, hpre _ _ a3⟩
  · exact hpre _ _ (h.ixok n hn)
  · rcases hU with ⟨rfl, _⟩ | ⟨rfl, _⟩
    · exact .inl (h.uok b hb)
    · rcases List.mem_append.1 hb with hb | hb
      · exact .inl (h.uok b hb)
      · exact .inr (by simpa using hb)
  · rcases hU with ⟨rfl, _⟩ | ⟨rfl, hn⟩
    · exact h.nod
    · exact List.nodup_append.2 ⟨h.nod, by simp, fun a ha b hb e => hn (by
      have hb2 : b = blkOf f ix.length := by simpa using hb
      rw [← hb2, ← e]
      exact ha)⟩
  · have := h.ule
    rcases hU with ⟨rfl, _⟩ | ⟨rfl, _⟩
    · omega
    · simp; omega

theorem OfMid.put {W W' : World} {n₀ T tb mf fb ms k : Nat} {rest c : Int} {f : Int → Int} {U : List (List Int)} {ix : List Nat} {cs : List (Int × Nat)} {ofV : Value} (h : OfMid W n₀ T tb mf fb ms rest f U ix cs ofV k)
    (hg : W.grownBy W' (some ms)) (hs : MapIs W' ms (entC cs ++ [(.int .i64 c, .int .i64 ((k : Nat) : Int))])) (hc : blkOf f ix.length = rep c) (hc2 : 0 ≤ c ∧ c ≤ 255) : OfMid W' n₀ T tb mf fb ms rest f U ix (cs ++ [(c, k)]) ofV k := by
  obtain ⟨es, ck, hb, he⟩ := h.same
  refine ⟨h.add.map ⟨es, ck, hb, he⟩ h.ms0.2 hg, row_blk h.row fun g c f _ hgb => (hg.block g (blk_lt hgb) (fun e => by rw [Option.some.inj e, hb] at hgb; cases hgb)).trans hgb, by simpa [entC] using hs, fun p hp => ?_, h.ixok, h.uok, h.nod, h.ule, h.ms0, h.kok⟩
  rcases List.mem_append.1 hp with hp | hp
  · exact h.csok p hp
  · obtain rfl : p = (c, k) := by simpa using hp
    exact ⟨hc2.1, hc2.2, by rw [← hc]; exact h.kok⟩
theorem okRep {c : Int} (h : 0 ≤ c ∧ c ≤ 255) : OkB (rep c) := ⟨rep_length c, fun x hx => by rw [List.eq_of_mem_replicate hx]; exact h⟩
theorem info84p : (Try.prog.info? 84).map (fun i => (i.zero, i.size, i.bytes)) = some (some (.int .u16 0), 1, 2) := by kernel_rfl
theorem heap_alloc_get (w : World) (o : Obj) (k : Nat) : (w.alloc o).heap[k]? = if k = w.heap.size then some o else w.heap[k]? := by
  show (w.heap.push o)[k]? = _
  rw [Array.getElem?_push]
set_option maxRecDepth 100000 in
set_option maxHeartbeats 4000000 in
theorem c_of (v : Value) (l : List Rng) (rest : Int) (w : World) (h : RgRow w v l) (hl : Rise l) (hr0 : 0 ≤ rest) (hr1 : rest ≤ 255) :
    Calls Try.prog 42 #[v, .int .i64 rest] w fun e w' => ∃ T, e = .returned (.pointer (some ⟨T, 0, none⟩)) ∧ (∃ tb mf fb ms U ix cs, ix.length = 8704 ∧ OfSt w' w.heap.size T tb mf fb ms rest (clsOf l rest) U ix cs) ∧ Ext w w' := by
  have h0 := h
  obtain ⟨p, cap, rfl, hcap, hc⟩ := h0
  obtain ⟨i0, hi, hz0, hz1, hz2⟩ := info_parts info84p
  have HL := Lib.hid hl
  have HC := Lib.hid hc
  clear hc hl
  go_enter Try.func42, Try.ntmps42
  go_wp2_with fail
  obtain ⟨wA, hwA⟩ : ∃ wA, wA = (((((w.alloc (Obj.cells #[.int .i64 rest, .slice none 0 0, .slice none 0 0] 80)).alloc (Obj.cells #[.pointer (some ⟨w.heap.size, 0, none⟩)] 27)).alloc (Obj.map #[] 0)).alloc (Obj.cells #[.map (some (w.heap.size + 1 + 1))] 109)).alloc (Obj.map #[] 0)) := ⟨_, rfl⟩
  have hA : wA.heap[w.heap.size]? = some (Obj.cells #[.int .i64 rest, .slice none 0 0, .slice none 0 0] 80) ∧ wA.heap[w.heap.size + 1]? = some (Obj.cells #[.pointer (some ⟨w.heap.size, 0, none⟩)] 27) ∧ wA.heap[w.heap.size + 1 + 1]? = some (Obj.map #[] 0) ∧ wA.heap[w.heap.size + 1 + 1 + 1]? = some (Obj.cells #[.map (some (w.heap.size + 1 + 1))] 109) ∧ wA.heap[w.heap.size + 1 + 1 + 1 + 1]? = some (Obj.map #[] 0) := by
    rw [hwA]
    refine ⟨?_, ?_, ?_, ?_, ?_⟩ <;> (simp only [heap_alloc_get, World.size_alloc]; repeat first | exact if_pos rfl | exact if_pos trivial | rw [if_neg (by omega)])
  have hxA : Ext w wA := by rw [hwA]; exact (((((Ext.refl w).alloc _).alloc _).alloc _).alloc _).alloc _
  rw [← hwA]
  clear hwA
  obtain ⟨ms, hms⟩ : ∃ ms, w.heap.size + 1 + 1 + 1 + 1 = ms := ⟨_, rfl⟩
  obtain ⟨fb, hfb⟩ : ∃ fb, w.heap.size + 1 + 1 + 1 = fb := ⟨_, rfl⟩
  obtain ⟨mf, hmf⟩ : ∃ mf, w.heap.size + 1 + 1 = mf := ⟨_, rfl⟩
  obtain ⟨tb, htb⟩ : ∃ tb, w.heap.size + 1 = tb := ⟨_, rfl⟩
  obtain ⟨T, hT⟩ : ∃ T, w.heap.size = T := ⟨_, rfl⟩
  have hn : w.heap.size ≤ T ∧ w.heap.size ≤ mf ∧ w.heap.size ≤ ms ∧ w.heap.size ≤ fb ∧ w.heap.size ≤ tb := by omega
  have hmm : ms ≠ mf := by omega
  have hst : OfSt wA w.heap.size T tb mf fb ms rest (clsOf l rest) [] [] [] := by
    rw [hms, hfb, hmf, htb, hT] at hA
    refine ⟨⟨.slice none 0 0, ⟨hA.2.1, hA.2.2.2.1, ⟨_, hA.1, World.ownsRow_nil _ _ _ _⟩, ⟨_, _, hA.2.2.1, rfl⟩, by simp, by simp, hn.1, hn.2.1, hxA.sz⟩, World.ownsRow_nil _ _ _ _⟩, ⟨_, _, hA.2.2.2.2, rfl⟩, by simp, by simp, by simp, List.nodup_nil, by simp, hn.2.2.1, hmm⟩
  rw [hms, hfb, hmf, htb]
  rw [show (some (⟨w.heap.size, 0, none⟩ : Addr)) = some ⟨T, 0, none⟩ from by rw [hT]]
  clear hms hfb hmf htb hT hA
  go_loopw [0, 9, 10, 11, 12, 13, 14, 21] (fun s _ _ _ _ _ _ i w' => ∃ (n j : Nat) (U : List (List Int)) (ix : List Nat) (cs : List (Int × Nat)), i = .int .i64 (n : Nat) ∧ n ≤ 8704 ∧ ix.length = n ∧ RgRow w s (l.drop j) ∧ Hid (∀ x ∈ l.take j, x.hi < (n : Int) * 128) ∧ OfSt w' w.heap.size T tb mf fb ms rest (clsOf l rest) U ix cs ∧ Ext w w') (fun _ _ _ _ _ _ _ i _ => 8705 - (intOf i).toNat)
  case atStart => exact ⟨0, 0, [], [], [], rfl, by omega, rfl, by simpa using h, Lib.hid (by simp), hst, hxA⟩
  case round =>
    obtain ⟨n, j, U, ix, cs, rfl, hn1, hix, hv, hj, hst, hx⟩ := hrel
    have HIX := Lib.hid hix
    clear hix
    by_cases hlt : n < 8704
    · have hd : decide (((n : Nat) : Int) < 8704) = true := decide_eq_true (by omega)
      go_wp2_with fail
      rename_i K1 HK1
      have tail1 : ∀ (u10 u11 u12 u13 u14 u22 u23 u24 u25 u26 u27 u28 u29 u30 u31 u32 u33 u34 u35 u36 u37 u38 u39 u40 u41 u42 u43 u44 u45 u46 u47 u48 u49 u50 u51 u52 u53 u54 u55 u56 u57 u58 u59 u60 u61 u62 u63 u64 u65 u66 u67 u68 u69 u70 u71 u72 u73 u74 u75 u76 u77 u78 u79 u80 u81 u82 u83 u84 u85 u86 u87 u88 u89 u90 u91 u92 u93 : Value) (s : Value) (j : Nat), RgRow w s (l.drop j) → Hid (∀ x ∈ l.take j, x.hi < (n : Int) * 128) → K1 { tmps := #[s, .int .i64 rest, undef, undef, .pointer none, .pointer (some ⟨tb, 0, none⟩), .pointer (some ⟨fb, 0, none⟩), .func (.func 73) #[] #[.pointer (some ⟨fb, 0, none⟩), .pointer (some ⟨tb, 0, none⟩)], .map (some ms), .int .i64 (n : Nat), u10, u11, u12, u13, u14, .int .i64 rest, .agg #[.int .i64 rest, .slice none 0 0, .slice none 0 0], .pointer (some ⟨T, 0, none⟩), .map (some mf), .func (.func 73) #[] #[.pointer (some ⟨fb, 0, none⟩), .pointer (some ⟨tb, 0, none⟩)], .map (some ms), .int .i64 (n : Nat), u22, u23, u24, u25, u26, u27, u28, u29, u30, u31, u32, u33, u34, u35, u36, u37, u38, u39, u40, u41, u42, u43, u44, u45, u46, u47, u48, u49, u50, u51, u52, u53, u54, u55, u56, u57, u58, u59, u60, u61, u62, u63, u64, u65, u66, u67, u68, u69, u70, u71, u72, u73, u74, u75, u76, u77, u78, u79, u80, u81, u82, u83, u84, u85, u86, u87, u88, u89, u90, u91, u92, u93, undef], defers := [] } wr := by
        intro u10 u11 u12 u13 u14 u22 u23 u24 u25 u26 u27 u28 u29 u30 u31 u32 u33 u34 u35 u36 u37 u38 u39 u40 u41 u42 u43 u44 u45 u46 u47 u48 u49 u50 u51 u52 u53 u54 u55 u56 u57 u58 u59 u60 u61 u62 u63 u64 u65 u66 u67 u68 u69 u70 u71 u72 u73 u74 u75 u76 u77 u78 u79 u80 u81 u82 u83 u84 u85 u86 u87 u88 u89 u90 u91 u92 u93 s j hv hj
        refine HK1 _ _ ?_
        go_wp2_with fail
        have hblk : ∀ i, i < 128 → clsOf (l.drop j) rest ((128 * n + i : Nat) : Int) = clsOf l rest ((128 * n + i : Nat) : Int) := fun i hi => by
          conv => rhs; rw [← List.take_append_drop j l]
          refine (clsOf_none_app fun y hy hh => ?_).symm
          have := hj.out y hy
          omega
        refine (c_whole s (l.drop j) rest n _ (hv.mono hx) hlt).mono ?_
        rintro e w1 ⟨rfl, rfl⟩
        have hwt := fun c => wholeOf_true (HL.out.drop j) (rest := rest) (n := n) (c := c)
        obtain ⟨⟨c, bb⟩, hcb⟩ : ∃ q, wholeOf (l.drop j) rest n = q := ⟨_, rfl⟩
        rw [hcb] at hwt ⊢
        have HCB := Lib.hid hcb
        clear hcb
        cases bb with
        | true =>
          have hc1 := hwt c rfl
          have hcr : 0 ≤ c ∧ c ≤ 255 := by
            have := clsOf_range (HL.out.drop j).ok hr0 hr1 (r := ((128 * n + 0 : Nat) : Int))
            rw [hc1 0 (by omega)] at this
            exact this
          have hB : blkOf (clsOf l rest) n = rep c := blkOf_const fun i hi => by rw [← hblk i hi, hc1 i hi]
          have HBK := Lib.hid hB
          clear hwt hc1 hblk hB
          have hwf : (Lit.int .i64 c).wf = true := by simp [Lit.wf, IntKind.min, IntKind.max, IntKind.bits, IntKind.signed]; omega
          have hkeysC : Hid (∀ p ∈ entC cs, ∃ l, keyOf Try.prog 3 p.1 = some l) := Lib.hid fun p hp => by
            obtain ⟨⟨c', k'⟩, hq, rfl⟩ := List.mem_map.1 hp
            have := hst.csok _ hq
            exact ⟨_, keyOf_int_mk Try.underlying3 (by simp [Lit.wf, IntKind.min, IntKind.max, IntKind.bits, IntKind.signed]; simp at this; omega)⟩
          have hkeyC : keyOf Try.prog 3 (.int .i64 c) = some (.int .i64 c) := keyOf_int_mk Try.underlying3 hwf
          go_wp2_with (refine wpList_lookup_is (by rfl) (.tmp 48) (.tmp 49) (by rfl) (int_keyed Try.underlying3) Try.underlying111 Try.zeroValue3 (by rfl) (key := .int .i64 c) (by rfl) hst.same hkeysC.out hkeyC ?_; rintro v bb (⟨rfl, hmem⟩ | ⟨rfl, rfl, hne⟩))
          · obtain ⟨⟨c', k⟩, hp, e⟩ := List.mem_map.1 hmem
            simp only [Prod.mk.injEq, Value.int.injEq, true_and] at e
            obtain ⟨rfl, rfl⟩ := e
            obtain ⟨ofV, hmid⟩ := hst.found hp (by rw [HIX.out]; exact HBK.out)
            obtain ⟨W, hW⟩ : ∃ W, w1 = W := ⟨_, rfl⟩
            rw [hW] at hmid ⊢
            have hxW : Ext w W := hW ▸ hx
            clear hW hmem
            have hixb : ix.length ≤ 8704 := by have := HIX.out; omega
            have hkb : k < 65536 := by have := (List.getElem?_eq_some_iff.1 hmid.kok).1; have := hmid.add.le; omega
            obtain ⟨p2, cap2, rfl⟩ : ∃ p2 cap2, ofV = .slice p2 ix.length cap2 := by
              rcases hmid.row.2 with ⟨h1, h2⟩ | ⟨g, cap, _, h1, _⟩
              · exact ⟨none, 0, by rw [h1, h2]⟩
              · exact ⟨_, cap, h1⟩
            obtain ⟨unV, hTW, hunW⟩ := hmid.add.un
            have qt : ∀ w', EOn (fun a => a.block = tb ∨ a = ⟨T, 1, none⟩ ∨ a.block = tb) W w' → w'.cell? ⟨tb, 0, none⟩ = some (.pointer (some ⟨T, 0, none⟩)) := fun w' h => h.cell (.inl rfl) hmid.add.bt.cell
            have qu : ∀ w', EOn (fun a => a.block = tb ∨ a = ⟨T, 1, none⟩ ∨ a.block = tb) W w' → w'.cell? ⟨T, 1, none⟩ = some (.slice p2 ix.length cap2) := fun w' h => h.cell (.inr (.inl rfl)) (cell_blk hTW 1)
            have hmidbt := hmid.add.bt
            have HM := Lib.hid hmid
            have hrowW := hmid.row
            clear hmid
            have hbx := hmidbt.not_row (by decide) hrowW
            refine wp_lex ((fun a => a.block = tb ∨ a = ⟨T, 1, none⟩ ∨ a.block = tb)) [true, true, true, true, true, true, true, false, false] (by kernel_rfl) (by kernel_rfl) ?_
            clear hmidbt
            repeat first
              | refine wpG_move (by rfl) (by simp only [Act.eval, Array.getD_eq_getD_getElem?, List.getElem?_toArray, List.getElem?_cons_succ, List.getElem?_cons_zero, Option.getD_some]; try rfl) (by simp only [Act.put, List.setIfInBounds_toArray, List.set_cons_succ, List.set_cons_zero]; rfl) ?_
              | refine wpG_assign (by rfl) (by simp only [Act.eval, Array.getD_eq_getD_getElem?, List.getElem?_toArray, List.getElem?_cons_succ, List.getElem?_cons_zero, Option.getD_some]; try rfl) (by simp only [Act.put, List.setIfInBounds_toArray, List.set_cons_succ, List.set_cons_zero]; rfl) ?_
              | refine wpG_val (by rfl) (fun w' hx => (by go_simp; first | (go_bits; first | exact rfl | exact ⟨by omega, rfl⟩) | exact rfl | exact (if_neg (by omega)).trans rfl | exact ⟨by omega, rfl⟩)) (by simp only [Act.put, List.setIfInBounds_toArray, List.set_cons_succ, List.set_cons_zero]; rfl) ?_
              | refine wpG_no (by rfl) (by simp only [Act.put, List.setIfInBounds_toArray, List.set_cons_succ, List.set_cons_zero]; rfl) ?_
            refine wpG_do (by rfl) (fun w3 hx3 K hK => ?_)
            go_wp2_with fail
            refine ⟨EOn.of_ext ((Ext.refl w3).alloc _), ?_⟩
            refine wpG_do (by rfl) (fun w4 hx4 K hK => ?_)
            have hx24 : Ext W w4 := (hx3.alloc _).trans hx4
            have hrow4 := ownsRow_ext hrowW hx24
            have hnew : w4.heap[w3.heap.size]? = some (.cells #[.int .u16 ((k : Nat) : Int)] 84) := hx4.blk (World.alloc_heap_new w3 _)
            refine wp_append_own w4 (.tmp 66) (.tmp 69) 77 rfl w.heap.size 84 i0 (.int .u16 0) 1 2 Try.underlying77 hi hz0 hz1 hz2 rfl (by decide)
              _ ix.length (cells16 ix) rfl hrow4 ⟨w3.heap.size, 0, none⟩ 1 1 [.int .u16 ((k : Nat) : Int)] rfl rfl ?c1 ?c2 (by unfold maxLen; omega) (by omega) (by have := hx24.sz; have := hxW.sz; omega) ?_
            case c1 =>
              intro j u hu
              have hadd : (⟨w3.heap.size, 0, none⟩ : Addr).add j = ⟨w3.heap.size, j, none⟩ := by unfold Addr.add; split <;> simp_all
              rw [hadd, cell_blk hnew j]
              simpa using hu
            case c2 => intro u hu; obtain rfl : u = _ := (by simpa using hu); rfl
            intro v' w' hown' hgrow _
            replace hgrow : w4.grownBy w' (Value.slice p2 ix.length cap2).ownBlock := hgrow
            have hTne := row_ne hrow4 (hx24.blk hTW) (by decide)
            have htne := (HM.out.add.bt.ext hx24).not_row (by decide) hrow4
            refine hK _ _ ⟨⟨hgrow.size, fun a ha hb => ?_⟩, ?_⟩
            · have hne : some a.block ≠ (Value.slice p2 ix.length cap2).ownBlock := by
                rcases ha with e | e | e
                · rw [e]; exact htne
                · rw [e]; exact hTne
                · rw [e]; exact hbx
              unfold World.cell?
              rw [hgrow.block a.block hb hne]
            obtain ⟨g', cap', rfl⟩ := ownsRow_succ hown'
            refine wpG_end (fun w5 hx5 => ?_)
            have hT5 := hx5.blk ((hgrow.block T (blk_lt (hx24.blk hTW)) hTne).trans (hx24.blk hTW))
            have hrow5 := ownsRow_ext hown' hx5
            have cu5 := cell_blk hT5 1
            simp only [List.getElem?_toArray, List.getElem?_cons_succ, List.getElem?_cons_zero] at cu5
            have fu5 := frz_blk hT5 1
            go_wp2_with fail
            refine gQ_normal ?_
            go_wp2_with fail
            go_roundw
            case rel =>
              refine ⟨_, _, _, _, _, _, _, _, _, _, _, _, _, _, _, _, _, _, _, _, _, _, _, _, _, _, _, _, _, _, _, _, _, _, _, _, _, _, _, _, _, _, _, _, _, _, _, _, _, _, _, _, _, _, _, _, _, _, _, _, _, _, _, _, _, _, _, _, _, _, _, _, _, _, _, _, _, _, _, _, ?_, rfl⟩
              have hadd5 := ((HM.out.add.ext hx24).row hrow4 hgrow).ext hx5
              have hs5 : MapIs w5 ms (entC cs) := by
                obtain ⟨es, ck, hb, he⟩ := HM.out.same
                have hb4 := hx24.blk hb
                have hm : some ms ≠ (Value.slice p2 ix.length cap2).ownBlock := by
                  intro e2
                  rcases hrow4.2 with ⟨h3, _⟩ | ⟨g, c', cur, h3, _, hgb, _⟩
                  · rw [h3] at e2; simp [Value.ownBlock] at e2
                  · rw [h3] at e2
                    obtain rfl : ms = g := by simpa [Value.ownBlock] using e2
                    rw [hgb] at hb4
                    cases hb4
                exact ⟨es, ck, hx5.blk ((hgrow.block ms (blk_lt hb4) hm).trans hb4), he⟩
              have hgs := grownBy_setAt w5 ⟨T, 1, none⟩ (.slice (some ⟨g', 0, none⟩) (ix.length + 1) cap')
              have hrow6 := hrow5.kept hgs (.inr (row_ne hrow5 hT5 (by decide)).symm)
              have hs6 := hs5.kept hgs (by
                intro e
                obtain ⟨es, ck, hb, he⟩ := hs5
                rw [Option.some.inj e, hT5] at hb
                cases hb)
              have hrow7 : (w5.setCell ⟨T, 1, none⟩ (.slice (some ⟨g', 0, none⟩) (ix.length + 1) cap')).ownsRow w.heap.size 84 1 (.slice (some ⟨g', 0, none⟩) (ix.length + 1) cap') (ix.length + 1) (cells16 (ix ++ [k])) := by simpa [cells16] using hrow6
              have hxF : Ext w (w5.setCell ⟨T, 1, none⟩ (.slice (some ⟨g', 0, none⟩) (ix.length + 1) cap')) := by
                have b3 := Ext.trans hxW hx24
                have b4 := Below.grown b3 hgrow b3.sz (fun k e => (hrow4.lt k e).1)
                have b5 := Below.trans b4 (Below.mono hx5 b4.size)
                exact b5.setCell (p := ⟨T, 1, none⟩) hn.1 _
              refine ⟨n + 1, j, U, ix ++ [k], cs, by simp, by omega, by simp [HIX.out], hv, ?_, HM.out.done (hadd5.setOf _) hrow7 hs6, hxF⟩
              exact Lib.hid (fun x hx => by have := hj.out x hx; omega)
              done
            case measure =>
              show 8705 - (intOf (.int .i64 ((n : Nat) + 1 : Int))).toNat < 8705 - (intOf (.int .i64 ((n : Nat) : Int))).toNat
              simp [intOf]
              omega
          · obtain ⟨ofV, ha, hrw⟩ := hst.add
            have HN := Lib.hid hne
            clear hne
            refine (c_uniform c w1 hcr.1 hcr.2).mono ?_
            rintro e w2 ⟨rfl, hx2⟩
            have ha2 := ha.ext hx2
            have hule := hst.ule
            go_wp2_with fail
            refine (c_add (rep c) w2 w.heap.size T tb mf fb rest ofV U (okRep hcr) (by have := HIX.out; omega) ha2).mono ?_
            rintro e w3 ⟨k, U', rfl, ha3, hk3, hU3, hkeep, hbel⟩
            have hBi : blkOf (clsOf l rest) ix.length = rep c := by rw [HIX.out]; exact HBK.out
            rw [← hBi] at hk3 hU3
            have hmid3 := hst.laid ha2 (ownsRow_ext hrw hx2) (hst.same.ext hx2) ha3 hk3 hU3 hkeep
            obtain ⟨W, hrun, ms4, hg4, hs4⟩ := hmid3.same.put (int_keyed Try.underlying3) Try.underlying111 hkeysC.out hkeyC HN.out (v := .int .i64 ((k : Nat) : Int))
            have hmid := hmid3.put hg4 ms4 hBi hcr
            have hxW : Ext w W := (Below.trans (Ext.trans hx hx2) hbel).grown hg4 (by have := hbel.size; have := hx2.sz; have := hx.sz; omega) (fun q e => by cases e; exact hst.ms0.1)
            have HBI := Lib.hid hBi
            have HK3 := Lib.hid hkeep
            clear hBi hk3 hU3 hkeep ha3 hmid3 ms4 hg4 hs4 hbel ha2 ha hrw
            go_wp2_with fail
            clear hrun
            have hixb : ix.length ≤ 8704 := by have := HIX.out; omega
            have hkb : k < 65536 := by have := (List.getElem?_eq_some_iff.1 hmid.kok).1; have := hmid.add.le; omega
            obtain ⟨p2, cap2, rfl⟩ : ∃ p2 cap2, ofV = .slice p2 ix.length cap2 := by
              rcases hmid.row.2 with ⟨h1, h2⟩ | ⟨g, cap, _, h1, _⟩
              · exact ⟨none, 0, by rw [h1, h2]⟩
              · exact ⟨_, cap, h1⟩
            obtain ⟨unV, hTW, hunW⟩ := hmid.add.un
            have qt : ∀ w', EOn (fun a => a.block = tb ∨ a = ⟨T, 1, none⟩ ∨ a.block = tb) W w' → w'.cell? ⟨tb, 0, none⟩ = some (.pointer (some ⟨T, 0, none⟩)) := fun w' h => h.cell (.inl rfl) hmid.add.bt.cell
            have qu : ∀ w', EOn (fun a => a.block = tb ∨ a = ⟨T, 1, none⟩ ∨ a.block = tb) W w' → w'.cell? ⟨T, 1, none⟩ = some (.slice p2 ix.length cap2) := fun w' h => h.cell (.inr (.inl rfl)) (cell_blk hTW 1)
            have hmidbt := hmid.add.bt
            have HM := Lib.hid hmid
            have hrowW := hmid.row
            clear hmid
            have hbx := hmidbt.not_row (by decide) hrowW
            refine wp_lex ((fun a => a.block = tb ∨ a = ⟨T, 1, none⟩ ∨ a.block = tb)) [true, true, true, true, true, true, true, false, false] (by kernel_rfl) (by kernel_rfl) ?_
            clear hmidbt
            repeat first
              | refine wpG_move (by rfl) (by simp only [Act.eval, Array.getD_eq_getD_getElem?, List.getElem?_toArray, List.getElem?_cons_succ, List.getElem?_cons_zero, Option.getD_some]; try rfl) (by simp only [Act.put, List.setIfInBounds_toArray, List.set_cons_succ, List.set_cons_zero]; rfl) ?_
              | refine wpG_assign (by rfl) (by simp only [Act.eval, Array.getD_eq_getD_getElem?, List.getElem?_toArray, List.getElem?_cons_succ, List.getElem?_cons_zero, Option.getD_some]; try rfl) (by simp only [Act.put, List.setIfInBounds_toArray, List.set_cons_succ, List.set_cons_zero]; rfl) ?_
              | refine wpG_val (by rfl) (fun w' hx => (by go_simp; first | (go_bits; first | exact rfl | exact ⟨by omega, rfl⟩) | exact rfl | exact (if_neg (by omega)).trans rfl | exact ⟨by omega, rfl⟩)) (by simp only [Act.put, List.setIfInBounds_toArray, List.set_cons_succ, List.set_cons_zero]; rfl) ?_
              | refine wpG_no (by rfl) (by simp only [Act.put, List.setIfInBounds_toArray, List.set_cons_succ, List.set_cons_zero]; rfl) ?_
            refine wpG_do (by rfl) (fun w3 hx3 K hK => ?_)
            go_wp2_with fail
            refine ⟨EOn.of_ext ((Ext.refl w3).alloc _), ?_⟩
            refine wpG_do (by rfl) (fun w4 hx4 K hK => ?_)
            have hx24 : Ext W w4 := (hx3.alloc _).trans hx4
            have hrow4 := ownsRow_ext hrowW hx24
            have hnew : w4.heap[w3.heap.size]? = some (.cells #[.int .u16 ((k : Nat) : Int)] 84) := hx4.blk (World.alloc_heap_new w3 _)
            refine wp_append_own w4 (.tmp 66) (.tmp 69) 77 rfl w.heap.size 84 i0 (.int .u16 0) 1 2 Try.underlying77 hi hz0 hz1 hz2 rfl (by decide)
              _ ix.length (cells16 ix) rfl hrow4 ⟨w3.heap.size, 0, none⟩ 1 1 [.int .u16 ((k : Nat) : Int)] rfl rfl ?c1 ?c2 (by unfold maxLen; omega) (by omega) (by have := hx24.sz; have := hxW.sz; omega) ?_
            case c1 =>
              intro j u hu
              have hadd : (⟨w3.heap.size, 0, none⟩ : Addr).add j = ⟨w3.heap.size, j, none⟩ := by unfold Addr.add; split <;> simp_all
              rw [hadd, cell_blk hnew j]
              simpa using hu
            case c2 => intro u hu; obtain rfl : u = _ := (by simpa using hu); rfl
            intro v' w' hown' hgrow _
            replace hgrow : w4.grownBy w' (Value.slice p2 ix.length cap2).ownBlock := hgrow
            have hTne := row_ne hrow4 (hx24.blk hTW) (by decide)
            have htne := (HM.out.add.bt.ext hx24).not_row (by decide) hrow4
            refine hK _ _ ⟨⟨hgrow.size, fun a ha hb => ?_⟩, ?_⟩
            · have hne : some a.block ≠ (Value.slice p2 ix.length cap2).ownBlock := by
                rcases ha with e | e | e
                · rw [e]; exact htne
                · rw [e]; exact hTne
                · rw [e]; exact hbx
              unfold World.cell?
              rw [hgrow.block a.block hb hne]
            obtain ⟨g', cap', rfl⟩ := ownsRow_succ hown'
            refine wpG_end (fun w5 hx5 => ?_)
            have hT5 := hx5.blk ((hgrow.block T (blk_lt (hx24.blk hTW)) hTne).trans (hx24.blk hTW))
            have hrow5 := ownsRow_ext hown' hx5
            have cu5 := cell_blk hT5 1
            simp only [List.getElem?_toArray, List.getElem?_cons_succ, List.getElem?_cons_zero] at cu5
            have fu5 := frz_blk hT5 1
            go_wp2_with fail
            refine gQ_normal ?_
            go_wp2_with fail
            go_roundw
            case rel =>
              refine ⟨_, _, _, _, _, _, _, _, _, _, _, _, _, _, _, _, _, _, _, _, _, _, _, _, _, _, _, _, _, _, _, _, _, _, _, _, _, _, _, _, _, _, _, _, _, _, _, _, _, _, _, _, _, _, _, _, _, _, _, _, _, _, _, _, _, _, _, _, _, _, _, _, _, _, _, _, _, _, _, _, ?_, rfl⟩
              have hadd5 := ((HM.out.add.ext hx24).row hrow4 hgrow).ext hx5
              have hs5 : MapIs w5 ms (entC (cs ++ [(c, k)])) := by
                obtain ⟨es, ck, hb, he⟩ := HM.out.same
                have hb4 := hx24.blk hb
                have hm : some ms ≠ (Value.slice p2 ix.length cap2).ownBlock := by
                  intro e2
                  rcases hrow4.2 with ⟨h3, _⟩ | ⟨g, c', cur, h3, _, hgb, _⟩
                  · rw [h3] at e2; simp [Value.ownBlock] at e2
                  · rw [h3] at e2
                    obtain rfl : ms = g := by simpa [Value.ownBlock] using e2
                    rw [hgb] at hb4
                    cases hb4
                exact ⟨es, ck, hx5.blk ((hgrow.block ms (blk_lt hb4) hm).trans hb4), he⟩
              have hgs := grownBy_setAt w5 ⟨T, 1, none⟩ (.slice (some ⟨g', 0, none⟩) (ix.length + 1) cap')
              have hrow6 := hrow5.kept hgs (.inr (row_ne hrow5 hT5 (by decide)).symm)
              have hs6 := hs5.kept hgs (by
                intro e
                obtain ⟨es, ck, hb, he⟩ := hs5
                rw [Option.some.inj e, hT5] at hb
                cases hb)
              have hrow7 : (w5.setCell ⟨T, 1, none⟩ (.slice (some ⟨g', 0, none⟩) (ix.length + 1) cap')).ownsRow w.heap.size 84 1 (.slice (some ⟨g', 0, none⟩) (ix.length + 1) cap') (ix.length + 1) (cells16 (ix ++ [k])) := by simpa [cells16] using hrow6
              have hxF : Ext w (w5.setCell ⟨T, 1, none⟩ (.slice (some ⟨g', 0, none⟩) (ix.length + 1) cap')) := by
                have b3 := Ext.trans hxW hx24
                have b4 := Below.grown b3 hgrow b3.sz (fun k e => (hrow4.lt k e).1)
                have b5 := Below.trans b4 (Below.mono hx5 b4.size)
                exact b5.setCell (p := ⟨T, 1, none⟩) hn.1 _
              refine ⟨n + 1, j, U', ix ++ [k], (cs ++ [(c, k)]), by simp, by omega, by simp [HIX.out], hv, ?_, HM.out.done (hadd5.setOf _) hrow7 hs6, hxF⟩
              exact Lib.hid (fun x hx => by have := hj.out x hx; omega)
              done
            case measure =>
              show 8705 - (intOf (.int .i64 ((n : Nat) + 1 : Int))).toNat < 8705 - (intOf (.int .i64 ((n : Nat) : Int))).toNat
              simp [intOf]
              omega
        | false =>
          clear hwt
          go_wp2_with fail
          have hz1 := Holds83.new w1
          have hxz : Ext w (w1.alloc (.cells Try.zeroCells83 83)) := Ext.alloc hx _
          refine (c_fill s (l.drop j) rest n w _ hxz hv (HL.out.drop j) hlt hr0 hr1).mono ?_
          rintro e w2 ⟨v2, j2, rfl, hv2, hj2, hx2⟩
          rw [blkOf_congr hblk]
          rw [List.drop_drop] at hv2
          have hz2 := hz1.ext hx2
          have hz3 := hz2.setRow (blkOf (clsOf l rest) n)
          clear hblk
          go_wp2_with (refine wpList_store83 rfl (.tmp 14) (.tmp 78) rfl rfl rfl hz2 (rep_length 0) (blkOf_length _ _) ?_)
          have hx0 : Ext w1 (w2.setRow w1.heap.size (u8s (blkOf (clsOf l rest) n))) := Ext.setRow (Below.trans ((Ext.refl w1).alloc _) (Below.mono hx2 (by simp))) w1.heap.size (Nat.le_refl _) _
          obtain ⟨W0, hW0⟩ : ∃ W0, w2.setRow w1.heap.size (u8s (blkOf (clsOf l rest) n)) = W0 := ⟨_, rfl⟩
          rw [hW0] at hz3 hx0 ⊢
          obtain ⟨ofV, ha1, hr1'⟩ := hst.add
          obtain ⟨p2, cap2, rfl⟩ : ∃ p2 cap2, ofV = .slice p2 ix.length cap2 := by
            rcases hr1'.2 with ⟨h1, h2⟩ | ⟨g, cap, _, h1, _⟩
            · exact ⟨none, 0, by rw [h1, h2]⟩
            · exact ⟨_, cap, h1⟩
          have hbx : some w1.heap.size ≠ (Value.slice p2 ix.length cap2).ownBlock := fun e => by have := (hr1'.lt _ e.symm).2; omega
          obtain ⟨unV1, hT1, hun1⟩ := ha1.un
          have hbu : some w1.heap.size ≠ unV1.ownBlock := fun e => by have := (hun1.lt _ e.symm).2; omega
          have ha0 := ha1.ext hx0
          have hT0 := hx0.blk hT1
          have hr0' := ownsRow_ext hr1' hx0
          have hs0 := hst.same.ext hx0
          have hule := hst.ule
          have hokb : OkB (blkOf (clsOf l rest) n) := ⟨blkOf_length _ _, fun x hx => by
            obtain ⟨i, _, rfl⟩ := List.mem_map.1 hx
            exact clsOf_range HL.out.ok hr0 hr1⟩
          clear hz1 hz2 hx2 hW0
          have qt : ∀ w', EOn (fun a => a.block = tb ∨ a = ⟨T, 1, none⟩ ∨ a.block = w1.heap.size) W0 w' → w'.cell? ⟨tb, 0, none⟩ = some (.pointer (some ⟨T, 0, none⟩)) := fun w' h => h.cell (.inl rfl) ha0.bt.cell
          have qu : ∀ w', EOn (fun a => a.block = tb ∨ a = ⟨T, 1, none⟩ ∨ a.block = w1.heap.size) W0 w' → w'.cell? ⟨T, 1, none⟩ = some (.slice p2 ix.length cap2) := fun w' h => h.cell (.inr (.inl rfl)) (cell_blk hT0 1)
          refine wp_lex ((fun a => a.block = tb ∨ a = ⟨T, 1, none⟩ ∨ a.block = w1.heap.size)) [true, true, true, true, true, true, true, false, true, false, false] (by kernel_rfl) (by kernel_rfl) ?_
          repeat first
            | refine wpG_move (by rfl) (by simp only [Act.eval, Array.getD_eq_getD_getElem?, List.getElem?_toArray, List.getElem?_cons_succ, List.getElem?_cons_zero, Option.getD_some]; try rfl) (by simp only [Act.put, List.setIfInBounds_toArray, List.set_cons_succ, List.set_cons_zero]; rfl) ?_
            | refine wpG_assign (by rfl) (by simp only [Act.eval, Array.getD_eq_getD_getElem?, List.getElem?_toArray, List.getElem?_cons_succ, List.getElem?_cons_zero, Option.getD_some]; try rfl) (by simp only [Act.put, List.setIfInBounds_toArray, List.set_cons_succ, List.set_cons_zero]; rfl) ?_
            | refine wpG_val (by rfl) (fun w' hx => (by go_simp; first | (go_bits; first | exact rfl | exact ⟨by omega, rfl⟩) | exact rfl | exact (if_neg (by omega)).trans rfl | exact ⟨by omega, rfl⟩)) (by simp only [Act.put, List.setIfInBounds_toArray, List.set_cons_succ, List.set_cons_zero]; rfl) ?_
            | refine wpG_no (by rfl) (by simp only [Act.put, List.setIfInBounds_toArray, List.set_cons_succ, List.set_cons_zero]; rfl) ?_
          refine wpG_load83 (by rfl) (by simp only [Act.eval, Array.getD_eq_getD_getElem?, List.getElem?_toArray, List.getElem?_cons_succ, List.getElem?_cons_zero, Option.getD_some]; try rfl) hz3 (blkOf_length _ _) (fun i => .inr (.inr rfl)) (by simp only [Act.put, List.setIfInBounds_toArray, List.set_cons_succ, List.set_cons_zero]; rfl) ?_
          refine wpG_do (by rfl) (fun w3 hx3 K hK => ?_)
          have ha3 := ha0.ext hx3
          go_wp2_with fail
          refine (c_add (blkOf (clsOf l rest) n) w3 w.heap.size T tb mf fb rest _ U hokb (by have := HIX.out; omega) ha3).mono ?_
          rintro e W ⟨k, U', rfl, ha4, hk4, hU4, hkeep, hbel⟩
          rw [← HIX.out] at hk4 hU4
          have hmid := hst.laid ha3 (ownsRow_ext hr0' hx3) (hs0.ext hx3) ha4 hk4 hU4 hkeep
          have hixb : ix.length ≤ 8704 := by have := HIX.out; omega
          have hkb : k < 65536 := by have := (List.getElem?_eq_some_iff.1 hmid.kok).1; have := hmid.add.le; omega
          have hxW : Ext w W := Below.trans (Ext.trans (Ext.trans hx hx0) hx3) hbel
          have hq : Hid (∀ x ∈ l.take (j + j2), x.hi ≤ (n : Int) * 128 + 127) := Lib.hid fun x hx => by
            rw [List.take_add] at hx
            rcases List.mem_append.1 hx with hx | hx
            · have := hj.out x hx; omega
            · exact hj2 x hx
          obtain ⟨unVW, hTW, hunW⟩ := hmid.add.un
          refine hK _ _ ⟨⟨hkeep.1, fun a ha hb => ?_⟩, ?_⟩
          · rcases ha with e | e | e
            · have h3 : w3.heap[tb]? = some (Obj.cells _ _ _) := ha3.bt
              have h4 : W.heap[tb]? = some (Obj.cells _ _ _) := ha4.bt
              unfold World.cell?
              rw [e, h3, h4]
            · rw [e, cell_blk hTW 1, cell_blk (hx3.blk hT0) 1]
              rfl
            · have h3 : w3.heap[w1.heap.size]? = some (Obj.cells _ _ _) := hz3.ext hx3
              have h4 := hkeep.2 _ _ h3 (by have := blk_lt hT1; omega) (by have := ha1.mp.lt; omega) (fun u hu => by
                rw [cell_blk (hx3.blk hT0) 2] at hu
                simp at hu
                rw [← hu]
                exact hbu)
              unfold World.cell?
              rw [e, h3, h4]
          have HM := Lib.hid hmid
          have hrowW := hmid.row
          clear hmid hK hj2 hz3 ha4 hk4 hU4 hkeep ha3 qt qu ha0 hT0 hr0' hs0 ha1 hr1' hT1 hun1
          repeat first
            | refine wpG_move (by rfl) (by simp only [Act.eval, Array.getD_eq_getD_getElem?, List.getElem?_toArray, List.getElem?_cons_succ, List.getElem?_cons_zero, Option.getD_some]; try rfl) (by simp only [Act.put, List.setIfInBounds_toArray, List.set_cons_succ, List.set_cons_zero]; rfl) ?_
            | refine wpG_assign (by rfl) (by simp only [Act.eval, Array.getD_eq_getD_getElem?, List.getElem?_toArray, List.getElem?_cons_succ, List.getElem?_cons_zero, Option.getD_some]; try rfl) (by simp only [Act.put, List.setIfInBounds_toArray, List.set_cons_succ, List.set_cons_zero]; rfl) ?_
            | refine wpG_val (by rfl) (fun w' hx => (by go_simp; first | (go_bits; first | exact rfl | exact ⟨by omega, rfl⟩) | exact rfl | exact (if_neg (by omega)).trans rfl | exact ⟨by omega, rfl⟩)) (by simp only [Act.put, List.setIfInBounds_toArray, List.set_cons_succ, List.set_cons_zero]; rfl) ?_
            | refine wpG_no (by rfl) (by simp only [Act.put, List.setIfInBounds_toArray, List.set_cons_succ, List.set_cons_zero]; rfl) ?_
          refine wpG_do (by rfl) (fun w3 hx3 K hK => ?_)
          go_wp2_with fail
          refine ⟨EOn.of_ext ((Ext.refl w3).alloc _), ?_⟩
          refine wpG_do (by rfl) (fun w4 hx4 K hK => ?_)
          have hx24 : Ext W w4 := (hx3.alloc _).trans hx4
          have hrow4 := ownsRow_ext hrowW hx24
          have hnew : w4.heap[w3.heap.size]? = some (.cells #[.int .u16 ((k : Nat) : Int)] 84) := hx4.blk (World.alloc_heap_new w3 _)
          refine wp_append_own w4 (.tmp 84) (.tmp 89) 77 rfl w.heap.size 84 i0 (.int .u16 0) 1 2 Try.underlying77 hi hz0 hz1 hz2 rfl (by decide)
            _ ix.length (cells16 ix) rfl hrow4 ⟨w3.heap.size, 0, none⟩ 1 1 [.int .u16 ((k : Nat) : Int)] rfl rfl ?c1 ?c2 (by unfold maxLen; omega) (by omega) (by have := hx24.sz; have := hxW.sz; omega) ?_
          case c1 =>
            intro j u hu
            have hadd : (⟨w3.heap.size, 0, none⟩ : Addr).add j = ⟨w3.heap.size, j, none⟩ := by unfold Addr.add; split <;> simp_all
            rw [hadd, cell_blk hnew j]
            simpa using hu
          case c2 => intro u hu; obtain rfl : u = _ := (by simpa using hu); rfl
          intro v' w' hown' hgrow _
          replace hgrow : w4.grownBy w' (Value.slice p2 ix.length cap2).ownBlock := hgrow
          have hTne := row_ne hrow4 (hx24.blk hTW) (by decide)
          have htne := (HM.out.add.bt.ext hx24).not_row (by decide) hrow4
          refine hK _ _ ⟨⟨hgrow.size, fun a ha hb => ?_⟩, ?_⟩
          · have hne : some a.block ≠ (Value.slice p2 ix.length cap2).ownBlock := by
              rcases ha with e | e | e
              · rw [e]; exact htne
              · rw [e]; exact hTne
              · rw [e]; exact hbx
            unfold World.cell?
            rw [hgrow.block a.block hb hne]
          obtain ⟨g', cap', rfl⟩ := ownsRow_succ hown'
          refine wpG_end (fun w5 hx5 => ?_)
          have hT5 := hx5.blk ((hgrow.block T (blk_lt (hx24.blk hTW)) hTne).trans (hx24.blk hTW))
          have hrow5 := ownsRow_ext hown' hx5
          have cu5 := cell_blk hT5 1
          simp only [List.getElem?_toArray, List.getElem?_cons_succ, List.getElem?_cons_zero] at cu5
          have fu5 := frz_blk hT5 1
          go_wp2_with fail
          refine gQ_normal ?_
          go_wp2_with fail
          go_roundw
          case rel =>
            refine ⟨_, _, _, _, _, _, _, _, _, _, _, _, _, _, _, _, _, _, _, _, _, _, _, _, _, _, _, _, _, _, _, _, _, _, _, _, _, _, _, _, _, _, _, _, _, _, _, _, _, _, _, _, _, _, _, _, _, _, _, _, _, _, _, _, _, _, _, _, _, _, _, _, _, _, _, _, _, _, _, _, ?_, rfl⟩
            have hadd5 := ((HM.out.add.ext hx24).row hrow4 hgrow).ext hx5
            have hs5 : MapIs w5 ms (entC cs) := by
              obtain ⟨es, ck, hb, he⟩ := HM.out.same
              have hb4 := hx24.blk hb
              have hm : some ms ≠ (Value.slice p2 ix.length cap2).ownBlock := by
                intro e2
                rcases hrow4.2 with ⟨h3, _⟩ | ⟨g, c', cur, h3, _, hgb, _⟩
                · rw [h3] at e2; simp [Value.ownBlock] at e2
                · rw [h3] at e2
                  obtain rfl : ms = g := by simpa [Value.ownBlock] using e2
                  rw [hgb] at hb4
                  cases hb4
              exact ⟨es, ck, hx5.blk ((hgrow.block ms (blk_lt hb4) hm).trans hb4), he⟩
            have hgs := grownBy_setAt w5 ⟨T, 1, none⟩ (.slice (some ⟨g', 0, none⟩) (ix.length + 1) cap')
            have hrow6 := hrow5.kept hgs (.inr (row_ne hrow5 hT5 (by decide)).symm)
            have hs6 := hs5.kept hgs (by
              intro e
              obtain ⟨es, ck, hb, he⟩ := hs5
              rw [Option.some.inj e, hT5] at hb
              cases hb)
            have hrow7 : (w5.setCell ⟨T, 1, none⟩ (.slice (some ⟨g', 0, none⟩) (ix.length + 1) cap')).ownsRow w.heap.size 84 1 (.slice (some ⟨g', 0, none⟩) (ix.length + 1) cap') (ix.length + 1) (cells16 (ix ++ [k])) := by simpa [cells16] using hrow6
            have hxF : Ext w (w5.setCell ⟨T, 1, none⟩ (.slice (some ⟨g', 0, none⟩) (ix.length + 1) cap')) := by
              have b3 := Ext.trans hxW hx24
              have b4 := Below.grown b3 hgrow b3.sz (fun k e => (hrow4.lt k e).1)
              have b5 := Below.trans b4 (Below.mono hx5 b4.size)
              exact b5.setCell (p := ⟨T, 1, none⟩) hn.1 _
            refine ⟨n + 1, (j + j2), U', ix ++ [k], cs, by simp, by omega, by simp [HIX.out], hv2, ?_, HM.out.done (hadd5.setOf _) hrow7 hs6, hxF⟩
            exact Lib.hid (fun x hx => by have := hq.out x hx; omega)
            done
          case measure =>
            show 8705 - (intOf (.int .i64 ((n : Nat) + 1 : Int))).toNat < 8705 - (intOf (.int .i64 ((n : Nat) : Int))).toNat
            simp [intOf]
            omega
      go_loopw [0] (fun s w' => ∃ j, RgRow w s (l.drop j) ∧ Hid (∀ x ∈ l.take j, x.hi < (n : Int) * 128) ∧ w' = wr) (fun s _ => lenV s)
      case atStart => exact ⟨j, hv, hj, rfl⟩
      case round =>
        obtain ⟨j, hv, hj, rfl⟩ := hrel
        obtain ⟨suf, hsuf⟩ : ∃ suf, l.drop j = suf := ⟨_, rfl⟩
        rw [hsuf] at hv
        have hvH := Lib.hid hv
        have HS := Lib.hid hsuf
        clear hsuf
        cases suf with
        | nil =>
          obtain ⟨p', cap', rfl, _, _⟩ := hv
          go_wp2_with fail
          exact tail1 _ _ _ _ _ _ _ _ _ _ _ _ _ _ _ _ _ _ _ _ _ _ _ _ _ _ _ _ _ _ _ _ _ _ _ _ _ _ _ _ _ _ _ _ _ _ _ _ _ _ _ _ _ _ _ _ _ _ _ _ _ _ _ _ _ _ _ _ _ _ _ _ _ _ _ _ _ _ j (by rw [HS.out]; exact hvH.out) hj
        | cons x t =>
          obtain ⟨b, off, cap', rfl, hcap', c0, c1, c2⟩ := hv.head
          have c1' := hx.cell c1
          have g0 : (0 : Int) < ((t.length : Nat) : Int) + 1 := by omega
          by_cases hlo : x.hi < (n : Int) * 128
          · go_wp2_with fail
            have hd : l.drop (j + 1) = t := by
              have := congrArg (List.drop 1) HS.out
              simpa [List.drop_drop] using this
            have ht : l.take (j + 1) = l.take j ++ [x] := by rw [List.take_add, HS.out]; rfl
            refine ⟨⟨j + 1, ?_, Lib.hid ?_, trivial⟩, by simp [lenV]⟩
            · rw [hd]
              refine hvH.out.tail fun hne => if_neg fun h1 => ?_
              have : 0 < t.length := List.length_pos_iff.2 hne
              omega
            · rw [ht]
              intro y hy
              rcases List.mem_append.1 hy with hy | hy
              · exact hj.out y hy
              · obtain rfl : y = x := by simpa using hy
                exact hlo
          · go_wp2_with fail
            exact tail1 _ _ _ _ _ _ _ _ _ _ _ _ _ _ _ _ _ _ _ _ _ _ _ _ _ _ _ _ _ _ _ _ _ _ _ _ _ _ _ _ _ _ _ _ _ _ _ _ _ _ _ _ _ _ _ _ _ _ _ _ _ _ _ _ _ _ _ _ _ _ _ _ _ _ _ _ _ _ j (by rw [HS.out]; exact hvH.out) hj
    · have hd : decide (((n : Nat) : Int) < 8704) = false := decide_eq_false (by omega)
      have hix2 : ix.length = 8704 := by have := HIX.out; omega
      obtain ⟨ofV, ha, hrow⟩ := hst.add
      have ct := ha.bt.cell
      have HI2 := Lib.hid hix2
      clear hix2 hn1
      go_wp2_with fail
      go_ret
      exact ⟨T, rfl, ⟨tb, mf, fb, ms, U, ix, cs, HI2.out, hst⟩, hx⟩
end Go.Proofs.Ytbbemipidkhmfaa
