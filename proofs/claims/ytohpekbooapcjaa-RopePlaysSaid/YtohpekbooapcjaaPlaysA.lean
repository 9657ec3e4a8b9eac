/-
  Ropes and their texts on a shelf: what is laid there.
-/
import Derived.RangeFuncBox
import Derived.Test.YtohpekbooapcjaaTells
namespace Go.Proofs.Ytohpekbooapcjaa
open Go.RowKit Go.Rp

set_option maxHeartbeats 1000000 in
theorem c_Delete_no (v : Value) (o : Option T) (i j : Int) (w : World) (h : IsRope w v o) (hs : (txt o).size ≤ 1048576) (hn : noPart (txt o) i j) :
    Calls Try.prog 19 #[v, .int .i64 i, .int .i64 j] w (NoRope w 200) := by
  unfold noPart at hn
  by_cases h1 : i < 0 ∨ ((txt o).size : Int) < i
  · clear hn
    go_enter Try.func19, Try.ntmps19
    go_wp2_with fail
    refine (c_place_no v o _ _ h hs h1).mono ?_
    rintro e w1 ⟨rfl, hx1⟩
    clear h1
    go_wp2_with fail
    exact ret_two rfl rfl rfl rfl ⟨rfl, hx1⟩
  · have a1 : 0 ≤ i := by omega
    have a2 : i ≤ (txt o).size := by omega
    by_cases h2 : j < 0 ∨ ((txt o).size : Int) < j
    · clear hn h1
      go_enter Try.func19, Try.ntmps19
      go_wp2_with fail
      refine (c_place_yes v o _ _ h hs a1 a2).mono ?_
      rintro e w1 ⟨rfl, hx1⟩
      go_wp2_with fail
      refine (c_place_no v o _ _ (h.mono hx1) hs h2).mono ?_
      rintro e w2 ⟨rfl, hx2⟩
      clear h2
      go_wp2_with fail
      exact ret_two rfl rfl rfl rfl ⟨rfl, hx1.trans hx2⟩
    · have a3 : 0 ≤ j := by omega
      have a4 : j ≤ (txt o).size := by omega
      have a5 : j < i := by omega
      clear hn h1 h2
      go_enter Try.func19, Try.ntmps19
      go_wp2_with fail
      refine (c_place_yes v o _ _ h hs a1 a2).mono ?_
      rintro e w1 ⟨rfl, hx1⟩
      go_wp2_with fail
      refine (c_place_yes v o _ _ (h.mono hx1) hs a3 a4).mono ?_
      rintro e w2 ⟨rfl, hx2⟩
      go_wp2_with fail
      exact ret_two rfl rfl rfl rfl ⟨rfl, hx1.trans hx2⟩

theorem ownsRow_ext {W W' : World} {base : Nat} {e : TypeId} {size : Nat} {v : Value} {n : Nat} {xs : List Value} (h : W.ownsRow base e size v n xs) (hx : Ext W W') : W'.ownsRow base e size v n xs := by
  obtain ⟨h1, h2⟩ := h
  refine ⟨h1, ?_⟩
  rcases h2 with h2 | ⟨g, cap, cur, rfl, a1, a2, a3⟩
  · exact .inl h2
  · exact .inr ⟨g, cap, cur, rfl, a1, hx.blk a2, a3⟩
theorem cell1_new (w : World) (a : Value) (t : TypeId) : ∀ j u, [a][j]? = some u → (w.alloc (.cells #[a] t)).cell? ((⟨w.heap.size, 0, none⟩ : Addr).add j) = some u := by
  intro j u h
  have hj : j = 0 := by
    have := (List.getElem?_eq_some_iff.1 h).1
    simp at this
    omega
  subst hj
  simp at h
  subst h
  simp [Addr.add]
/-- A block that is written is no part of a rope. -/
def Apart (w : World) (row : Option Nat) : Prop := ∀ g, row = some g → ∃ cur e f, w.heap[g]? = some (.cells cur e f) ∧ e ≠ 84 ∧ e ≠ 59
theorem IsNode.grown {w w' : World} {row : Option Nat} (hg : w.grownBy w' row) (hr : Apart w row) {v : Value} {t : T} (hn : IsNode w v t) : IsNode w' v t := by
  induction hn with
  | leaf s h1 h2 => exact .leaf s h1 h2
  | br blk va vb a b ha hb hd hc iha ihb =>
    refine .br blk va vb a b iha ihb hd ((hg.block blk (blk_lt hc) (fun e => ?_)).trans hc)
    obtain ⟨cur, e', f, h1, h2, _⟩ := hr blk e.symm
    rw [hc] at h1
    simp only [Option.some.injEq, Obj.cells.injEq] at h1
    exact h2 h1.2.1.symm
theorem IsTree.grown {w w' : World} {row : Option Nat} (hg : w.grownBy w' row) (hr : Apart w row) {v : Value} {o : Option T} (hn : IsTree w v o) : IsTree w' v o := by
  cases o with
  | none => exact hn
  | some t => exact IsNode.grown hg hr hn
theorem IsRope.grown {w w' : World} {row : Option Nat} (hg : w.grownBy w' row) (hr : Apart w row) {v : Value} {o : Option T} (hn : IsRope w v o) : IsRope w' v o := by
  cases hn with
  | nil => exact .nil
  | mk b n o hn hc =>
    refine .mk b n o (hn.grown hg hr) ((hg.block b (blk_lt hc) (fun e => ?_)).trans hc)
    obtain ⟨cur, e', f, h1, _, h2⟩ := hr b e.symm
    rw [hc] at h1
    simp only [Option.some.injEq, Obj.cells.injEq] at h1
    exact h2 h1.2.1.symm
theorem apart_row {w : World} {base : Nat} {v : Value} {n : Nat} {xs : List Value} {size : Nat} {e : TypeId} (h : w.ownsRow base e size v n xs) (he : e ≠ 84 ∧ e ≠ 59) : Apart w v.ownBlock := by
  intro g hg
  rcases h.2 with ⟨rfl, _⟩ | ⟨g', cap, cur, rfl, _, hgb, _⟩
  · simp [Value.ownBlock] at hg
  · obtain rfl : g' = g := by simpa [Value.ownBlock] using hg
    exact ⟨cur, e, _, hgb, he⟩
theorem grown_set (W : World) (b o : Nat) (v : Value) : W.grownBy (W.setCell ⟨b, o, none⟩ v) (some b) :=
  ⟨rfl, rfl, rfl, (KeepsWalks.setCell W _ v).size, fun k _ hk => Below.heap_setCell _ _ _ k (fun e => hk (by rw [e]))⟩
theorem not_blk {W : World} {b : Nat} {cs : Array Value} {t e : TypeId} {f : Nat × Nat} (h : W.heap[b]? = some (.cells cs t f)) (hte : t ≠ e) {base size k : Nat} {v : Value} {xs : List Value} (hr : W.ownsRow base e size v k xs) : v.ownBlock ≠ some b := by
  rcases hr.2 with ⟨rfl, _⟩ | ⟨g, cap, cur, rfl, _, hgb, _⟩
  · simp [Value.ownBlock]
  · intro e'
    obtain rfl : g = b := by simpa [Value.ownBlock] using e'
    rw [h] at hgb
    simp only [Option.some.injEq, Obj.cells.injEq] at hgb
    exact hte hgb.2.1

/-- All blocks but those of a shelf and of its rows lie as they lay. -/
def KeepB (w w' : World) : Prop := ∀ (b : Nat) (cs : Array Value) (e : TypeId) (f : Nat × Nat), w.heap[b]? = some (Obj.cells cs e f) → e ≠ 51 → e ≠ 23 → e ≠ 9 → w'.heap[b]? = some (.cells cs e f)
theorem KeepB.ofExt {w w' : World} (h : Ext w w') : KeepB w w' := fun _ _ _ _ hb _ _ _ => h.blk hb
theorem KeepB.trans {a b c : World} (h : KeepB a b) (k : KeepB b c) : KeepB a c := fun x cs e f hb h1 h2 h3 => k x cs e f (h x cs e f hb h1 h2 h3) h1 h2 h3
theorem IsNode.keep {w w' : World} (h : KeepB w w') {v : Value} {t : T} (hn : IsNode w v t) : IsNode w' v t := by
  induction hn with
  | leaf s h1 h2 => exact .leaf s h1 h2
  | br blk va vb a b ha hb hd hc iha ihb => exact .br blk va vb a b iha ihb hd (h _ _ _ _ hc (by decide) (by decide) (by decide))
theorem IsRope.keep {w w' : World} (h : KeepB w w') {v : Value} {o : Option T} (hn : IsRope w v o) : IsRope w' v o := by
  cases hn with
  | nil => exact .nil
  | mk b n o hn hc =>
    refine .mk b n o ?_ (h _ _ _ _ hc (by decide) (by decide) (by decide))
    cases o with
    | none => exact hn
    | some t => exact IsNode.keep h hn

/-- What a push onto a row of the shelf leaves: t, e: the shelf's type, the row's; e2: the other row's. -/
theorem pushed {w w1 : World} {n₀ p j : Nat} {cs : Array Value} {t e e2 : TypeId} {v v' v2 : Value} {n m n2 : Nat} {xs ys zs : List Value} {tmp : Obj}
    (hb : w.heap[p]? = some (.cells cs t (0, 0))) (hp : n₀ ≤ p) (ht : t ≠ e ∧ t ≠ e2 ∧ e ≠ e2 ∧ (t ≠ 84 ∧ t ≠ 59) ∧ (e ≠ 84 ∧ e ≠ 59)) (hn₀ : n₀ ≤ w.heap.size) (hte : t = 51 ∧ (e = 23 ∨ e = 9))
    (hrow : w.ownsRow n₀ e 1 v n xs) (hrow2 : w.ownsRow n₀ e2 1 v2 n2 zs)
    (hown' : w1.ownsRow n₀ e 1 v' m ys) (hgrow : (w.alloc tmp).grownBy w1 v.ownBlock) :
    w1.heap[p]? = some (.cells cs t (0, 0)) ∧ (w1.setCell ⟨p, j, none⟩ v').ownsRow n₀ e 1 v' m ys ∧ (w1.setCell ⟨p, j, none⟩ v').ownsRow n₀ e2 1 v2 n2 zs ∧
      (∀ u o, IsRope w u o → IsRope (w1.setCell ⟨p, j, none⟩ v') u o) ∧ Below n₀ w (w1.setCell ⟨p, j, none⟩ v') ∧ KeepB w (w1.setCell ⟨p, j, none⟩ v') := by
  obtain ⟨h1, h2, h3, h4, h5⟩ := ht
  have hba : (w.alloc tmp).heap[p]? = some (.cells cs t (0, 0)) := ((Ext.refl w).alloc tmp).blk hb
  have hne := not_blk hba h1 (hrow.alloc tmp)
  have hb1 : w1.heap[p]? = some (.cells cs t (0, 0)) := (hgrow.block p (blk_lt hba) (fun e => hne e.symm)).trans hba
  have hr2 : w1.ownsRow n₀ e2 1 v2 n2 zs := by
    refine (hrow2.alloc tmp).kept hgrow ?_
    rcases (hrow2.alloc tmp).2 with ⟨rfl, _⟩ | ⟨g, cap, cur, rfl, _, hgb, _⟩
    · exact .inl rfl
    · exact .inr (fun e' => not_blk hgb (fun e => h3 e.symm) (hrow.alloc tmp) (by rw [← e']; rfl))
  refine ⟨hb1, hown'.kept (grown_set w1 p j v') (.inr (not_blk hb1 h1 hown')), hr2.kept (grown_set w1 p j v') (.inr (not_blk hb1 h2 hr2)), fun u o hu => ?_, ?_, ?_⟩
  · have a1 := (hu.mono ((Ext.refl w).alloc tmp)).grown hgrow (apart_row (hrow.alloc tmp) h5)
    exact a1.grown (grown_set w1 p j v') (fun g hg => by
      obtain rfl : p = g := by simpa using hg
      exact ⟨cs, t, _, hb1, h4⟩)
  · refine ((((Below.refl n₀ w).alloc hn₀ tmp).grown hgrow (by simp; omega) (fun k hk => ((hrow.alloc tmp).lt k hk).1))).setCell (p := ⟨p, j, none⟩) hp v'
  · intro b cs' e' f' hb' n1 n2 n3
    have a0 : (w.alloc tmp).heap[b]? = some (.cells cs' e' f') := ((Ext.refl w).alloc tmp).blk hb'
    have ne1 : e' ≠ e := by rcases hte.2 with rfl | rfl <;> assumption
    have a1 : w1.heap[b]? = some (.cells cs' e' f') := (hgrow.block b (blk_lt a0) (fun h => not_blk a0 ne1 (hrow.alloc tmp) h.symm)).trans a0
    have ne2 : b ≠ p := by
      intro h
      subst h
      rw [hb1] at a1
      simp only [Option.some.injEq, Obj.cells.injEq] at a1
      exact n1 (a1.2.1.symm.trans hte.1)
    exact (Below.heap_setCell _ _ _ _ (by exact ne2)).trans a1

/-- The shelf: at p, made since w0: the ropes rs, the texts ss. -/
structure Stock (w0 w : World) (p : Nat) (v1 v2 : Value) (rs : List Value) (ss : List ByteArray) : Prop where
  ext : Ext w0 w
  low : w0.heap.size ≤ p
  blk : w.heap[p]? = some (.cells #[v1, v2] 51 (0, 0))
  own1 : w.ownsRow w0.heap.size 23 1 v1 rs.length rs
  own2 : w.ownsRow w0.heap.size 9 1 v2 ss.length (ss.map Value.string)
  len : rs.length = ss.length
  all : ∀ i (h : i < rs.length) (h2 : i < ss.length), ∃ o, IsRope w rs[i] o ∧ txt o = ss[i]
  small : ∀ s ∈ ss, s.size ≤ 1048576
theorem Stock.mono {w0 w w' : World} {p : Nat} {v1 v2 : Value} {rs : List Value} {ss : List ByteArray} (h : Stock w0 w p v1 v2 rs ss) (hx : Ext w w') : Stock w0 w' p v1 v2 rs ss :=
  ⟨h.ext.trans hx, h.low, hx.blk h.blk, ownsRow_ext h.own1 hx, ownsRow_ext h.own2 hx, h.len, fun i h1 h2 => by
    obtain ⟨o, ho, e⟩ := h.all i h1 h2
    exact ⟨o, ho.mono hx, e⟩, h.small⟩
/-- Some shelf. -/
def Some (w0 w : World) (p : Nat) (rs : List Value) (ss : List ByteArray) : Prop := ∃ v1 v2, Stock w0 w p v1 v2 rs ss

theorem Try.infoP : (Try.prog.info? 23).map (fun i => (i.zero, i.size, i.bytes)) = some (some (.pointer none), 1, 8) := by kernel_rfl
theorem Try.infoS : (Try.prog.info? 9).map (fun i => (i.zero, i.size, i.bytes)) = some (some (.string ⟨#[]⟩), 1, 16) := by kernel_rfl

set_option maxRecDepth 100000 in
set_option maxHeartbeats 2000000 in
/-- What came of an act that was refused. -/
theorem c_lay_no (p : Nat) (f : Int) (w : World) (hf : f ≠ 0) :
    Calls Try.prog 49 #[.pointer (some ⟨p, 0, none⟩), .pointer none, .int .i64 f, .string ⟨#[]⟩, .int .i64 f] w fun e w' => e = .returned (.bool true) ∧ w' = w := by
  have hf1 : (f == 0) = false := beq_false_of_ne hf
  go_enter Try.func49, Try.ntmps49
  go_wp2_with fail
  refine (c_num f _).mono ?_
  rintro e w1 ⟨rfl, rfl⟩
  go_wp2_with fail
  exact ret_one rfl rfl rfl ⟨rfl, rfl⟩

set_option maxRecDepth 100000 in
set_option maxHeartbeats 4000000 in
/-- What came of an act, laid behind the others. -/
theorem c_lay (w0 : World) (p : Nat) (v1 v2 : Value) (rs : List Value) (ss : List ByteArray) (r : Value) (o : Option T) (s : ByteArray) (w : World) (hst : Stock w0 w p v1 v2 rs ss) (hr : IsRope w r o) (he : txt o = s) (hs : s.size ≤ 1048576) (hn : ss.length ≤ 1000) :
    Calls Try.prog 49 #[.pointer (some ⟨p, 0, none⟩), r, .int .i64 0, .string s, .int .i64 0] w fun e w' => e = .returned (.bool true) ∧ Some w0 w' p (rs ++ [r]) (ss ++ [s]) ∧ KeepB w w' := by
  obtain ⟨i0, hi, hz0, hz1, hz2⟩ := info_parts Try.infoP
  obtain ⟨j0, hj, hy0, hy1, hy2⟩ := info_parts Try.infoS
  obtain ⟨pr, rfl⟩ := hr.ptr
  have hlen := hst.len
  have hc := cell_blk hst.blk
  have hf := frz_blk hst.blk
  have HLEN := Lib.hid hlen
  have hle : rs.length ≤ 1000 := by omega
  clear hlen
  go_enter Try.func49, Try.ntmps49
  go_wp2_with fail
  refine (c_num 0 _).mono ?_
  rintro e w1 ⟨rfl, rfl⟩
  go_wp2_with (at_builtin; refine wpList_append_own _ rfl (.tmp 29) (.tmp 31) 48 rfl w0.heap.size 23 i0 (.pointer none) 1 8 Try.underlying48 hi hz0 hz1 hz2 rfl (by decide) _ _ _ rfl (hst.own1.alloc _) ⟨_, 0, none⟩ 1 1 [.pointer pr] rfl rfl ?d1 ?d2 ?d3 ?d4 ?d5 ?_)
  case d1 => exact cell1_new _ _ _
  case d2 => simp [Value.oneCell']
  case d3 => unfold maxLen; omega
  case d4 => omega
  case d5 => have := hst.ext.sz; simp; omega
  intro v1' w2 hown hgrow _
  obtain ⟨g1, cap1, rfl⟩ := ownsRow_succ hown
  obtain ⟨hb2, ho1, ho2, hk, hbel, hkb⟩ := pushed (j := 0) hst.blk hst.low (by decide) hst.ext.sz ⟨rfl, .inl rfl⟩ hst.own1 hst.own2 hown hgrow
  have hkr := hk _ _ hr
  have hkall : ∀ i (h : i < rs.length) (h2 : i < ss.length), ∃ o, IsRope (w2.setCell ⟨p, 0, none⟩ (.slice (some ⟨g1, 0, none⟩) (rs.length + 1) cap1)) rs[i] o ∧ txt o = ss[i] := fun i h1 h2 => by
    obtain ⟨o, ho, e⟩ := hst.all i h1 h2
    exact ⟨o, hk _ _ ho, e⟩
  have hsb := set_blk hb2 0 (.slice (some ⟨g1, 0, none⟩) (rs.length + 1) cap1)
  have hext : Ext w0 _ := Below.trans hst.ext hbel
  have hcc := cell_blk hb2
  have hff := frz_blk hb2
  have HALL := Lib.hid hkall
  clear hgrow hown hk hkall hc hf
  go_upto_region 5 with fail
  refine wp_gen (fun W => Ext w0 W ∧ W.heap[p]? = some (.cells #[.slice (some ⟨g1, 0, none⟩) (rs.length + 1) cap1, v2] 51 (0, 0)) ∧ W.ownsRow w0.heap.size 23 1 (.slice (some ⟨g1, 0, none⟩) (rs.length + 1) cap1) (rs.length + 1) (rs ++ [.pointer pr]) ∧ W.ownsRow w0.heap.size 9 1 v2 ss.length (ss.map Value.string) ∧ IsRope W (.pointer pr) o ∧ Hid (∀ i (h : i < rs.length) (h2 : i < ss.length), ∃ o, IsRope W rs[i] o ∧ txt o = ss[i]) ∧ Hid (KeepB w1 W)) ⟨hext, hsb, ho1, ho2, hkr, HALL, hkb⟩ (fun w3 hw3 => ?_)
  obtain ⟨hX3, hb3, ho13, ho23, hr3, hall3, hkb3⟩ := hw3
  clear hext hsb ho1 ho2 hkr HALL hcc hff hb2 hbel hkb
  have hc3 := cell_blk hb3
  have hf3 := frz_blk hb3
  have hlow := hst.low
  go_wp2_with (at_builtin; refine wpList_append_own _ rfl (.tmp 39) (.tmp 41) 49 rfl w0.heap.size 9 j0 (.string ⟨#[]⟩) 1 16 Try.underlying49 hj hy0 hy1 hy2 rfl (by decide) _ _ _ rfl (ho23.alloc _) ⟨_, 0, none⟩ 1 1 [.string s] rfl rfl ?c1 ?c2 ?c3 ?c4 ?c5 ?_)
  case c1 => exact cell1_new _ _ _
  case c2 => simp [Value.oneCell']
  case c3 => unfold maxLen; omega
  case c4 => omega
  case c5 => have := hX3.sz; simp; omega
  intro v2' w4 hown hgrow _
  obtain ⟨g2, cap2, rfl⟩ := ownsRow_succ hown
  obtain ⟨hb4, ho2, ho1, hk, hbel, hkb4⟩ := pushed (j := 1) hb3 hlow (by decide) hX3.sz ⟨rfl, .inr rfl⟩ ho23 ho13 hown hgrow
  have hst2 : Stock w0 (w4.setCell ⟨p, 1, none⟩ (.slice (some ⟨g2, 0, none⟩) (ss.length + 1) cap2)) p (.slice (some ⟨g1, 0, none⟩) (rs.length + 1) cap1) (.slice (some ⟨g2, 0, none⟩) (ss.length + 1) cap2) (rs ++ [.pointer pr]) (ss ++ [s]) := by
    refine ⟨Below.trans hX3 hbel, hlow, set_blk hb4 1 _, by simpa using ho1, by simpa using ho2, by simp [HLEN.out], fun i h1 h2 => ?_, fun x hx => ?_⟩
    · by_cases hi2 : i < rs.length
      · obtain ⟨o', ho', e'⟩ := hall3.out i hi2 (by have := HLEN.out; omega)
        refine ⟨o', ?_, ?_⟩
        · rw [List.getElem_append_left hi2]
          exact hk _ _ ho'
        · rw [List.getElem_append_left (by have := HLEN.out; omega)]
          exact e'
      · have hie : i = rs.length := by simp at h1; omega
        refine ⟨o, ?_, ?_⟩
        · rw [List.getElem_append_right (by omega)]
          simpa using hk _ _ hr3
        · rw [List.getElem_append_right (by have := HLEN.out; omega)]
          simpa using he
    · rcases List.mem_append.1 hx with h | h
      · exact hst.small x h
      · simp at h
        rw [h]
        exact hs
  have hcc := cell_blk hb4
  have hff := frz_blk hb4
  have hr4 := hk _ _ hr3
  have HKB := Lib.hid (hkb3.out.trans hkb4)
  have HE := Lib.hid he
  clear hkb4 hkb3
  clear hgrow hown hk hc3 hf3 hall3 ho13 ho23 he hst
  go_upto_region 6 with fail
  refine wp_gen (fun W => Stock w0 W p (.slice (some ⟨g1, 0, none⟩) (rs.length + 1) cap1) (.slice (some ⟨g2, 0, none⟩) (ss.length + 1) cap2) (rs ++ [.pointer pr]) (ss ++ [s]) ∧ IsRope W (.pointer pr) o ∧ Hid (KeepB w1 W)) ⟨hst2, hr4, HKB⟩ (fun w5 hw5 => ?_)
  obtain ⟨hst5, hr5, hkb5⟩ := hw5
  clear hst2 hr4 HKB hcc hff hb4 hbel ho1 ho2
  go_wp2_with fail
  refine (c_tells _ o s _ hr5 HE.out hs).mono ?_
  rintro e w6 ⟨rfl, hx6⟩
  go_wp2_with fail
  exact ret_one rfl rfl rfl ⟨rfl, ⟨_, _, hst5.mono hx6⟩, hkb5.out.trans (KeepB.ofExt hx6)⟩
end Go.Proofs.Ytohpekbooapcjaa
