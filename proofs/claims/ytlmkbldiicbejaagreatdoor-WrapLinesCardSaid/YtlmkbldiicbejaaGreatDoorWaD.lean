/-
  The places of a text's letters.
-/
import Derived.Test.YtlmkbldiicbejaaGreatDoorWaC
import Derived.RangeFuncBox
import Derived.RangeFuncWrites
namespace Go.Proofs.YtlmkbldiicbejaaGreatDoor
open Go.RowKit Go.Rp Go.Maps Go.Cl Go.Shelf Go.Gr

attribute [local go_sem] Oper.semAt_some
/-- A place: from, to, the columns ahead of it and behind it. -/
structure Plc where
  f : Nat
  t : Nat
  a : Nat
  b : Nat
def plcW (l : List Plc) : List Value := l.flatMap fun p => [.int .i64 (p.f : Nat), .int .i64 (p.t : Nat), .int .i64 (p.a : Nat), .int .i64 (p.b : Nat)]
theorem plcW_app (x y : List Plc) : plcW (x ++ y) = plcW x ++ plcW y := by simp [plcW]
/-- The bytes of a letter. -/
def subS (s : ByteArray) (p : Nat × Nat) : List UInt8 := (s.extract p.1 p.2).data.toList
/-- The column behind some letters. -/
noncomputable def colS (a t : Nat) (s : ByteArray) (col : Nat) (ps : List (Nat × Nat)) : Nat := ps.foldl (fun c p => bhK a t c (subS s p)) col
/-- The places of some letters. -/
noncomputable def plcS (a t : Nat) (s : ByteArray) : Nat → List (Nat × Nat) → List Plc
  | _, [] => []
  | col, p :: ps => ⟨p.1, p.2, col, bhK a t col (subS s p)⟩ :: plcS a t s (bhK a t col (subS s p)) ps
theorem plcS_app (a t : Nat) (s : ByteArray) : ∀ (x y : List (Nat × Nat)) (col : Nat), plcS a t s col (x ++ y) = plcS a t s col x ++ plcS a t s (colS a t s col x) y
  | [], _, _ => rfl
  | p :: x, y, col => by
    rw [List.cons_append, plcS, plcS, plcS_app a t s x y, List.cons_append]
    rfl
theorem colS_app (a t : Nat) (s : ByteArray) (x y : List (Nat × Nat)) (col : Nat) : colS a t s col (x ++ y) = colS a t s (colS a t s col x) y := List.foldl_append ..
theorem plcS_len (a t : Nat) (s : ByteArray) : ∀ (x : List (Nat × Nat)) (col : Nat), (plcS a t s col x).length = x.length
  | [], _ => rfl
  | _ :: x, _ => by rw [plcS, List.length_cons, plcS_len a t s x]; rfl
theorem colS_le (a t : Nat) (s : ByteArray) (ha : a ≤ 2) : ∀ (x : List (Nat × Nat)) (col : Nat), colS a t s col x ≤ col + (t + 2) * x.length
  | [], col => by simp [colS]
  | p :: x, col => by
    have h1 := bhK_le a t col (subS s p) ha
    have h2 := colS_le a t s ha x (bhK a t col (subS s p))
    rw [List.length_cons, Nat.mul_add, Nat.mul_one]
    show colS a t s (bhK a t col (subS s p)) x ≤ _
    omega
theorem Tryz.infoP : (Tryz.prog.info? 118).map (fun i => (i.zero, i.size, i.bytes)) = some (some (.agg #[.int .i64 0, .int .i64 0, .int .i64 0, .int .i64 0]), 4, 32) := by kernel_rfl
theorem KI.set {B : Nat} (W : World) {b : Nat} (hb : b < B) (i : Nat) (v : Value) : KI B W (W.setCell ⟨b, i, none⟩ v) := by
  have hg := grown_cell W b i v
  exact ⟨hg.size, fun k c z hk hc => (hg.block k (blk_lt hc) (fun e => by have := Option.some.inj e; omega)).trans hc⟩
theorem KI.row {B B' size n : Nat} {e : TypeId} {W W' : World} {v : Value} {xs : List Value} (ho : W.ownsRow B' e size v n xs) (he : e ≠ 3) (hg : W.grownBy W' v.ownBlock) : KI B W W' := by
  refine ⟨hg.size, fun k c z hk hc => (hg.block k (blk_lt hc) (fun eb => ?_)).trans hc⟩
  rcases ho.2 with ⟨rfl, _⟩ | ⟨g, cap, cur, rfl, _, hgb, _⟩
  · cases eb
  · obtain rfl : k = g := by simpa [Value.ownBlock] using eb
    rw [hgb] at hc
    cases hc
    exact he rfl
/-- Subranges of a text. -/
abbrev Sub (s : ByteArray) : Type := {p : Nat × Nat // p.1 < p.2 ∧ p.2 ≤ s.size}
theorem pairs_ok (s : ByteArray) : ∀ p ∈ pairsOf (bdG s), p.1 < p.2 ∧ p.2 ≤ s.size := by
  intro p hp
  have h2 := bdG_le s p.2 (pairsOf_mem _ _ hp).2
  refine ⟨?_, h2⟩
  have h3 := letters_ne clsG s.data.toList ((s.data.toList.take p.2).drop p.1) (List.mem_map.2 ⟨p, hp, rfl⟩)
  apply Decidable.byContradiction
  intro hn
  refine h3 (List.drop_eq_nil_of_le ?_)
  rw [List.length_take]
  omega
noncomputable def pairsA (s : ByteArray) : List (Sub s) := (pairsOf (bdG s)).pmap (fun p h => ⟨p, h⟩) (pairs_ok s)
theorem pairsA_val (s : ByteArray) : (pairsA s).map (·.1) = pairsOf (bdG s) := by
  unfold pairsA
  rw [List.map_pmap]
  simp
/-- What stands while the places are gathered. -/
structure PlI (A a t st bk : Nat) (s : ByteArray) (w : World) (pre : List (Sub s)) (W : World) : Prop where
  l : ∃ v, Boxed W (A + 1 + 1) 113 v ∧ W.ownsRow A 118 4 v pre.length (plcW (plcS a t s st (pre.map (·.1))))
  c : Boxed W (A + 1 + 1 + 1) 3 (.int .i64 (colS a t s st (pre.map (·.1)) : Nat))
  b : Boxed W A 114 (.pointer (some ⟨bk, 0, none⟩))
  s : Boxed W (A + 1) 9 (.string s)
  x : Below A w W
theorem PlI.own {A a t st bk : Nat} {s : ByteArray} {w : World} (hA : w.heap.size = A) (B : Nat) (hB : A ≤ B) : OwnFrom B (PlI A a t st bk s w) := by
  rintro pre X Y row h hg hr
  have hne : ∀ b c ty z, X.heap[b]? = some (.cells c ty z) → some b ≠ row := fun b c ty z hb e => by
    obtain ⟨_, o, ho, hc⟩ := hr b e.symm
    rw [hb] at ho; cases ho; cases hc
  obtain ⟨v, h1, h2⟩ := h.l
  refine ⟨⟨v, h1.kept hg (hne _ _ _ _ h1), h2.kept hg ?_⟩, h.c.kept hg (hne _ _ _ _ h.c), h.b.kept hg (hne _ _ _ _ h.b), h.s.kept hg (hne _ _ _ _ h.s), h.x.grown hg (by have := h.x.size; omega) (fun k e => by have := (hr k e).1; omega)⟩
  rcases h2.2 with ⟨rfl, _⟩ | ⟨g, cap, cur, rfl, _, hgb, _⟩
  · exact .inl rfl
  · exact .inr fun e => hne _ _ _ _ hgb (by simpa [Value.ownBlock] using e)
set_option maxRecDepth 100000 in
set_option maxHeartbeats 4000000 in
theorem c_places_in (bk a t st : Nat) (s : ByteArray) (w : World) (h : BookIs w bk a t st) (ha : a ≤ 2) (ht : 1 ≤ t) (ht2 : t ≤ 64) (hst : st ≤ 1080000000) (hT : TabsW w) (hz : s.size ≤ 65536) :
    CallsIn Fence.wide 3 Tryz.prog 61 #[.pointer (some ⟨bk, 0, none⟩), .string s] w fun e w' => ∃ v, e = .returned v ∧ w'.ownsRow w.heap.size 118 4 v (pairsOf (bdG s)).length (plcW (plcS a t s st (pairsOf (bdG s)))) ∧ Ext w w' := by
  have hall : ∀ f, Fence.wide.fn f := fun _ => trivial
  have hro : Fence.wide.round = none := rfl
  have HB := Lib.hid h
  have HT := Lib.hid hT
  obtain ⟨dw, dg, hb, _, _⟩ := h
  have k2 : w.cell? ⟨bk, 2, none⟩ = some (.int .i64 (st : Nat)) := (cell_blk hb 2).trans rfl
  have k2a : ∀ o1 o2 o3, (((w.alloc o1).alloc o2).alloc o3).cell? ⟨bk, 2, none⟩ = some (.int .i64 (st : Nat)) := fun o1 o2 o3 => ((((Ext.refl w).alloc o1).alloc o2).alloc o3).cell k2
  have k2b : ∀ o1 o2, ((w.alloc o1).alloc o2).cell? ⟨bk, 2, none⟩ = some (.int .i64 (st : Nat)) := fun o1 o2 => (((Ext.refl w).alloc o1).alloc o2).cell k2
  clear hb hT
  refine callsIn_of_wp_marks Tryz.func61 rfl (hall _) ?_ rfl
  simp only [Tryz.ntmps61, List.size_toArray, List.length_cons, List.length_nil, Nat.reduceAdd, Nat.reduceSub, Array.replicate_succ, Array.replicate_zero, List.push_toArray, List.append_toArray, List.nil_append, List.cons_append]
  refine wpIn_wide.2 ?_
  go_wp2_with fail
  refine (c_gEach s _).mono ?_
  rintro e w1 ⟨rfl, rfl⟩
  go_wp2_with fail
  obtain ⟨wE, hwE⟩ : ∃ wE, wE = (((((w.alloc (.cells #[.pointer (some ⟨bk, 0, none⟩)] 114)).alloc (.cells #[.string s] 9)).alloc (.cells #[.slice none 0 0] 113)).alloc (.cells #[.int .i64 (st : Nat)] 3)).alloc (.cells #[.string s] 9)) := ⟨_, rfl⟩
  have hszE : wE.heap.size = w.heap.size + 5 := by rw [hwE]; simp
  have hxE : Ext w wE := by rw [hwE]; exact (((((Ext.refl w).alloc _).alloc _).alloc _).alloc _).alloc _
  have bB : Boxed wE w.heap.size 114 (.pointer (some ⟨bk, 0, none⟩)) := by rw [hwE]; exact ((((Boxed.new _ _ _).alloc _).alloc _).alloc _).alloc _
  have bS : Boxed wE (w.heap.size + 1) 9 (.string s) := by rw [hwE]; have := Boxed.new (w.alloc (.cells #[.pointer (some ⟨bk, 0, none⟩)] 114)) 9 (.string s); rw [World.size_alloc] at this; exact ((this.alloc _).alloc _).alloc _
  have bL : Boxed wE (w.heap.size + 1 + 1) 113 (.slice none 0 0) := by rw [hwE]; have := Boxed.new ((w.alloc (.cells #[.pointer (some ⟨bk, 0, none⟩)] 114)).alloc (.cells #[.string s] 9)) 113 (.slice none 0 0); simp only [World.size_alloc] at this; exact (this.alloc _).alloc _
  have bC : Boxed wE (w.heap.size + 1 + 1 + 1) 3 (.int .i64 (st : Nat)) := by rw [hwE]; have := Boxed.new (((w.alloc (.cells #[.pointer (some ⟨bk, 0, none⟩)] 114)).alloc (.cells #[.string s] 9)).alloc (.cells #[.slice none 0 0] 113)) 3 (.int .i64 (st : Nat)); simp only [World.size_alloc] at this; exact this.alloc _
  have bQ : Boxed wE (w.heap.size + 1 + 1 + 1 + 1) 9 (.string s) := by rw [hwE]; have := Boxed.new ((((w.alloc (.cells #[.pointer (some ⟨bk, 0, none⟩)] 114)).alloc (.cells #[.string s] 9)).alloc (.cells #[.slice none 0 0] 113)).alloc (.cells #[.int .i64 (st : Nat)] 3)) 9 (.string s); simp only [World.size_alloc] at this; exact this
  rw [← hwE]
  clear hwE k2a k2b k2
  refine (wpIn_wide (n := 3)).1 ?_
  refine wpIn_rangeFunc_ownF hro (by decide) (gf := 114) (lb := #[.pointer (some ⟨w.heap.size + 1 + 1 + 1 + 1, 0, none⟩)]) rfl (hall _) (enters_of Tryz.func114 (by kernel_rfl) rfl)
    (g_stops (fun x : Sub s => x.1) (pairsA s) s (pairsA_val s) (3 - 1) (w.heap.size + 1 + 1 + 1 + 1) wE.heap.size wE wE (HT.out.ext hxE) hz (Ext.refl _) (Nat.le_refl _) bQ) (fun h k => h.trans k)
    (fun W l o o' _ h ho _ => KI.put W l o o' h ho) (Below.refl _ _) (fun _ => rfl)
    (PlI w.heap.size a t st bk s w) (fun _ _ _ => False) (PlI.own rfl _ (by omega)) (fun _ _ _ _ _ hs _ _ => hs)
    ⟨⟨_, bL, World.ownsRow_nil _ _ _ _⟩, bC, bB, bS, hxE⟩
    (fun x => { tmps := #[.pointer (some ⟨bk, 0, none⟩), .string s, .pointer (some ⟨w.heap.size, 0, none⟩), .pointer (some ⟨w.heap.size + 1, 0, none⟩), .slice none 0 0, .pointer (some ⟨w.heap.size + 1 + 1, 0, none⟩), .pointer (some ⟨w.heap.size + 1 + 1 + 1, 0, none⟩), .int .i64 (x.1.1 : Nat), .int .i64 (x.1.2 : Nat), undef, .pointer (some ⟨bk, 0, none⟩), .pointer (some ⟨bk, 0, none⟩), .pointer (some ⟨bk, 0, none⟩), .pointer (some ⟨bk, 2, none⟩), .int .i64 (st : Nat), .string s, .func (.func 114) #[] #[.pointer (some ⟨w.heap.size + 1 + 1 + 1 + 1, 0, none⟩)], .int .i64 (x.1.1 : Nat), .int .i64 (x.1.2 : Nat), undef, undef, undef, undef, undef, undef, undef, undef, undef, undef, undef, undef, undef, undef, undef, undef, undef], defers := [] }) ?assign ?body ?done ?stop
  case assign =>
    intro l x W K hK
    gi_wp2
    exact hK
  case stop =>
    rintro D c pre W _ _ h _
    exact h.elim
  case done =>
    rintro D ys W hD rfl hI hK
    obtain ⟨v, hv, hrow⟩ := hI.l
    have hc := hv.cell
    have HI := Lib.hid hI
    have HROW := Lib.hid hrow
    have HD := Lib.hid hD
    clear hI hrow hD
    go_wp2_with fail
    refine ⟨by simp, .inl ⟨_, _, rfl, run_takeDeferred hK, ?_⟩⟩
    refine ⟨_, results_tmp rfl _ _ _, v, rfl, ?_, HI.out.x.trans (belowK_b (w := w) (Nat.le_refl _) W D _ _ (by have := HD.out; omega) hK rfl rfl)⟩
    have h2 := ownsRow_putObj HROW.out (.deferred none) hK rfl
    rw [pairsA_val] at h2
    rw [← pairsA_val, List.length_map, pairsA_val]
    exact h2
  case body =>
    rintro l pre x W hI hlt
    obtain ⟨v, hv, hrow⟩ := hI.l
    have HV := Lib.hid hv
    have HROW := Lib.hid hrow
    have HI := Lib.hid hI
    obtain ⟨⟨x1, x2⟩, hx1, hx2⟩ := x
    simp only at hx1 hx2
    have hx1I : ((x1 : Nat) : Int) < (x2 : Nat) := by omega
    have hx2I : ((x2 : Nat) : Int) ≤ (s.size : Nat) := by omega
    have hx12 : ((x1 : Nat) : Int) ≤ (x2 : Nat) := by omega
    have hx12n : x1 ≤ x2 := by omega
    have hzI : ((s.size : Nat) : Int) ≤ 65536 := by omega
    obtain ⟨A, hA⟩ : ∃ A, w.heap.size = A := ⟨_, rfl⟩
    have HA := Lib.hid hA
    rw [hA] at HV HROW HI ⊢
    obtain ⟨col, hcol⟩ : ∃ c, colS a t s st (pre.map (·.1)) = c := ⟨_, rfl⟩
    have c0 := HI.out.b.cell
    have c1 := HI.out.s.cell
    have c2 := HV.out.cell
    have c3 := HI.out.c.cell
    rw [hcol] at c3
    have HCOL := Lib.hid hcol
    have HIX := Lib.hid (show Ext w W from hI.x)
    obtain ⟨pv, cv, rfl⟩ := own_slice hrow
    clear hI hv hrow hA hcol
    have s0 : ∀ w', EOn (fun _ => True) W w' → w'.cell? ⟨A, 0, none⟩ = some (.pointer (some ⟨bk, 0, none⟩)) := fun w' h => h.cell trivial c0
    have s1 : ∀ w', EOn (fun _ => True) W w' → w'.cell? ⟨A + 1, 0, none⟩ = some (.string s) := fun w' h => h.cell trivial c1
    have s3 : ∀ w', EOn (fun _ => True) W w' → w'.cell? ⟨A + 1 + 1 + 1, 0, none⟩ = some (.int .i64 (col : Nat)) := fun w' h => h.cell trivial c3
    gi_wp2_with fail
    refine wpIn_lex (fun _ => True) [true, true, true, true, true, true, false] (by kernel_rfl) (by kernel_rfl) (by kernel_rfl) ?_
    repeat first
      | refine wpG_move' ?_
      | refine wpG_assign' ?_
      | refine wpG_val' ?_
      | refine wpG_no' ?_
    clear s0 s1 s3
    refine wpG_do (by rfl) (fun w4 hx4 K hK => ?_)
    go_wp2_with fail
    have HCB := Lib.hid (show col ≤ 1090000000 by
      rw [← HCOL.out]
      have h1 := colS_le a t s ha (pre.map (·.1)) st
      have h2 : (pairsA s).length = (bdG s).length - 1 := by rw [← pairsOf_length, ← pairsA_val, List.length_map]
      have h3 := bdG_len s
      rw [List.length_map] at h1
      have h4 : (t + 2) * pre.length ≤ 66 * pre.length := Nat.mul_le_mul_right _ (by omega)
      omega)
    have hsz : (s.extract x1 x2).size = x2 - x1 := by simp; omega
    refine (c_wbehind bk a t st col (s.extract x1 x2) w4 (HB.out.ext (HIX.out.trans hx4)) ha ht ht2 (HT.out.ext (HIX.out.trans hx4)) (by omega) (by omega) (by have := HCB.out; omega)).mono ?_
    rintro e w5 ⟨rfl, hx5⟩
    have hnle := bhK_le a t col (s.extract x1 x2).data.toList ha
    obtain ⟨nx, hnx⟩ : ∃ nx, bhK a t col (s.extract x1 x2).data.toList = nx := ⟨_, rfl⟩
    rw [hnx] at hnle ⊢
    have HNX := Lib.hid (show bhK a t col (subS s (x1, x2)) = nx from hnx)
    have hnI : ((nx : Nat) : Int) ≤ 1090000066 := by have := HCB.out; omega
    have HX5 := Lib.hid (hx4.trans hx5)
    refine hK _ _ ⟨EOn.of_ext hx5, ?_⟩
    clear hK hx4 hx5 hnx hnle hsz
    refine wpG_end (fun w6 hx6 => ?_)
    have HX6 := Lib.hid (HX5.out.trans hx6)
    clear hx6 HX5
    have k2 := (HV.out.ext HX6.out).cell
    have k3 := HX6.out.cell c3
    go_wp2_with fail
    refine gQ_normal ⟨rfl, ?_⟩
    gi_wp2_with (gi_at_builtin; refine Hid.out ?_)
    obtain ⟨i0, hi, hz0, hz1, hz2⟩ := info_parts Tryz.infoP
    have HPL := Lib.hid (show pre.length ≤ 65540 by
      have h2 : (pairsA s).length = (bdG s).length - 1 := by rw [← pairsOf_length, ← pairsA_val, List.length_map]
      have h3 := bdG_len s
      omega)
    have HAW := Lib.hid (show A ≤ W.heap.size by rw [← HA.out]; exact HIX.out.sz)
    have hnew := World.news_of_block (World.alloc_heap_new w6 (.cells #[.int .i64 (x1 : Nat), .int .i64 (x2 : Nat), .int .i64 (col : Nat), .int .i64 (nx : Nat)] 118))
    have HX7 := Lib.hid (HX6.out.alloc (.cells #[.int .i64 (x1 : Nat), .int .i64 (x2 : Nat), .int .i64 (col : Nat), .int .i64 (nx : Nat)] 118))
    refine wpListIn_append_own _ rfl (.tmp 26) (.tmp 32) 113 rfl A 118 i0 (.agg #[.int .i64 0, .int .i64 0, .int .i64 0, .int .i64 0]) 4 32 Tryz.underlying113 hi hz0 hz1 hz2 rfl (by decide) (.slice pv pre.length cv) pre.length _ rfl (ownsRow_ext HROW.out HX7.out) ⟨w6.heap.size, 0, none⟩ 1 1 [.int .i64 (x1 : Nat), .int .i64 (x2 : Nat), .int .i64 (col : Nat), .int .i64 (nx : Nat)] rfl rfl hnew (by intro u hu; simp at hu; rcases hu with rfl | rfl | rfl | rfl <;> rfl) (by have := HPL.out; unfold maxLen; omega) (by have := HPL.out; omega) (Nat.le_trans HAW.out HX7.out.sz) ?_
    intro v' w8 hown8 hgrow8 _
    obtain ⟨p', c', rfl⟩ := own_slice hown8
    have HX := Lib.hid (And.intro hown8 hgrow8)
    have hv7 := HV.out.ext HX7.out
    have hrow7 := ownsRow_ext HROW.out HX7.out
    have hv8 := hv7.kept hgrow8 (hv7.not_row (by decide) hrow7)
    have hc7 := HI.out.c.ext HX7.out
    have hc8 := hc7.kept hgrow8 (hc7.not_row (by decide) hrow7)
    have HV8 := Lib.hid hv8
    have HC8 := Lib.hid hc8
    have e1 := hv8.cell
    have e2 := hv8.frozen
    have hc9 := hc8.other (show A + 1 + 1 + 1 ≠ A + 1 + 1 by omega) (.slice p' (pre.length + 1) c')
    have e3 := hc9.cell
    have e4 := hc9.frozen
    clear hown8 hgrow8 hv7 hrow7 hv8 hc7 hc8 hc9 k2 k3 c0 c1 c2 c3
    gi_wp2_with fail
    have hown7 := ownsRow_ext HROW.out HX7.out
    have hA := HA.out
    obtain ⟨hown8, hgrow8⟩ := HX.out
    have hv8 := HV8.out
    have hc8 := HC8.out
    have hb8 := (HI.out.b.ext HX7.out).kept hgrow8 ((HI.out.b.ext HX7.out).not_row (by decide) hown7)
    have hs8 := (HI.out.s.ext HX7.out).kept hgrow8 ((HI.out.s.ext HX7.out).not_row (by decide) hown7)
    have hown9 : (w8.setCell ⟨A + 1 + 1, 0, none⟩ (.slice p' (pre.length + 1) c')).ownsRow A 118 4 (.slice p' (pre.length + 1) c') (pre.length + 1) _ := hown8.kept (grown_cell _ _ _ _) (.inr (hv8.not_row (by decide) hown8).symm)
    have hc9 := hc8.other (show A + 1 + 1 + 1 ≠ A + 1 + 1 by omega) (.slice p' (pre.length + 1) c')
    refine ⟨?_, ?_, ?_, ?_, ?_, ?_, ?_⟩
    · exact (((keeps_ext HX7.out).trans (KeepsOthers.of_grownBy hgrow8 fun j o ej hj => by
        rcases hown7.2 with ⟨h1, _⟩ | ⟨g, cap, cur, h1, _, hgb, _⟩
        · rw [h1] at ej; simp [Value.ownBlock] at ej
        · rw [h1] at ej
          obtain rfl : g = j := by simpa [Value.ownBlock] using ej
          rw [hgb] at hj; cases hj; rfl)).trans (KeepsOthers.setCell _ _ _)).trans (KeepsOthers.setCell _ _ _)
    · exact (((KI.of_ext HX7.out).trans (KI.row hown7 (by decide) hgrow8)).trans (KI.set _ (by omega) _ _)).trans (KI.set _ (by omega) _ _)
    · refine ⟨_, (hv8.set (.slice p' (pre.length + 1) c')).other (show A + 1 + 1 ≠ A + 1 + 1 + 1 by omega) _, ?_⟩
      have h3 := hown9.kept (grown_cell _ (A + 1 + 1 + 1) 0 (.int .i64 (nx : Nat))) (.inr (hc9.not_row (by decide) hown9).symm)
      rw [List.map_append, plcS_app, plcW_app, HCOL.out, List.length_append]
      have e5 : plcW (plcS a t s col ([(⟨(x1, x2), ⟨hx1, hx2⟩⟩ : Sub s)].map (·.1))) = [.int .i64 (x1 : Nat), .int .i64 (x2 : Nat), .int .i64 (col : Nat), .int .i64 (nx : Nat)] := by
        simp only [List.map_cons, List.map_nil, plcS, HNX.out]
        rfl
      rw [e5]
      exact h3
    · rw [List.map_append, colS_app, HCOL.out]
      have e6 : colS a t s col ([(⟨(x1, x2), ⟨hx1, hx2⟩⟩ : Sub s)].map (·.1)) = nx := HNX.out
      rw [e6]
      exact hc9.set _
    · exact (hb8.other (show A ≠ A + 1 + 1 by omega) _).other (show A ≠ A + 1 + 1 + 1 by omega) _
    · exact (hs8.other (show A + 1 ≠ A + 1 + 1 by omega) _).other (show A + 1 ≠ A + 1 + 1 + 1 by omega) _
    · have h0 : Below A w w8 := Below.grown (Below.trans HI.out.x (HX7.out.mono (by have := HIX.out.sz; omega))) hgrow8 (by have := HX7.out.sz; have := HIX.out.sz; omega) (fun k e => (hown7.lt _ e).1)
      exact (h0.setCell (p := ⟨A + 1 + 1, 0, none⟩) (by show A ≤ A + 1 + 1; omega) _).setCell (p := ⟨A + 1 + 1 + 1, 0, none⟩) (by show A ≤ A + 1 + 1 + 1; omega) _
theorem c_places (bk a t st : Nat) (s : ByteArray) (w : World) (h : BookIs w bk a t st) (ha : a ≤ 2) (ht : 1 ≤ t) (ht2 : t ≤ 64) (hst : st ≤ 1080000000) (hT : TabsW w) (hz : s.size ≤ 65536) :
    Calls Tryz.prog 61 #[.pointer (some ⟨bk, 0, none⟩), .string s] w fun e w' => ∃ v, e = .returned v ∧ w'.ownsRow w.heap.size 118 4 v (pairsOf (bdG s)).length (plcW (plcS a t s st (pairsOf (bdG s)))) ∧ Ext w w' := callsIn_wide.1 (c_places_in bk a t st s w h ha ht ht2 hst hT hz)
end Go.Proofs.YtlmkbldiicbejaaGreatDoor
