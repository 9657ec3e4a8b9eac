/-
  The pieces of a text: boxes, and where they end.
-/
import Derived.Test.YtlmkbldiicbejaaGreatDoorWrM
import Derived.Test.YtlmkbldiicbejaaGreatDoorWaE
import Derived.Test.YtlmkbldiicbejaaGreatDoorShelfS
import Derived.Lib.MinMax
import Derived.Test.YtlmkbldiicbejaaGreatDoorWpA
namespace Go.Proofs.YtlmkbldiicbejaaGreatDoor
open Go.RowKit Go.Rp Go.Maps Go.Cl Go.Shelf Go.Gr Go.Ln

attribute [local go_sem] Oper.semAt_some
section
variable {P : Program}
theorem wpIn_perm (S : Addr → Prop) {n l id : Nat} {Q : Exit → Act → World → Prop} {a : Act} {w : World} {ol : List Oper} (order : List Nat) (bs : List Bool) (hm : P.follows .mixedOrders = true) (hnd : (ol.all fun o => !isDefer o.op) = true)
    (hB : checkB ol bs order = true) {l' : List Oper} (hl' : order.map (nth ol) = l')
    (h : wpG S P ol.toArray (fun e a w => e = .normal ∧ Q .normal a w) bs l' a w) : (Code.region id ol.toArray true).wpIn (Fence.wide.inRound l) n P Q a w :=
  wpIn_plan S order bs hm hnd hB (by rw [← hl']; exact List.map_congr_left fun i _ => nth_eq ol i) h
end
theorem c_wText0 (a t : Nat) (s : ByteArray) (w : World) (ho : CellOk a t 0) (hT : TabsW w) (hz : s.size ≤ 65536) :
    Calls Tryz.prog 49 #[.string s, .agg #[.int .i64 (a : Nat), .int .i64 (t : Nat), .int .i64 0]] w fun e w' => e = .returned (.int .i64 (txtK a t 0 s : Nat)) ∧ Ext w w' := c_wText a t 0 s w ho hT hz
def lastE (f : Nat) (l : List (Nat × Bool)) : Nat := l.foldl (fun _ x => x.1) f
theorem last_lt (s : ByteArray) {pre : List (Nat × Bool)} {x : Nat × Bool} {t : List (Nat × Bool)} (h : chK s = pre ++ x :: t) : lastE 0 pre < x.1 ∧ x.1 ≤ s.size := by
  have hr := chK_rise s
  have hi := chK_in s x (by rw [h]; simp)
  refine ⟨?_, hi.2⟩
  rcases List.eq_nil_or_concat pre with rfl | ⟨p, y, rfl⟩
  · exact hi.1
  · rw [h] at hr
    have := (List.pairwise_append.1 hr).2.2 y (by simp) x (by simp)
    simpa [lastE] using this
/-- A piece: its box, and where it ends. -/
structure Pc where
  b : Wp.Bx
  e : Nat
/-- The box of a text. -/
noncomputable def pcB (a tb : Nat) (t : ByteArray) (m : Bool) : Wp.Bx :=
  ⟨min (txtK a tb 0 (t.extract 0 (trailL okT t.size t.data.toList))) 100000, min (txtK a tb 0 (t.extract 0 (trailL okI t.size t.data.toList)) - txtK a tb 0 (t.extract 0 (trailL okT t.size t.data.toList))) 100000, if Lib.hasSuffix (t.extract 0 (trailL okT t.size t.data.toList)).data.toList [194, 173] = true then 1 else 0, m⟩
noncomputable def pcS (a tb : Nat) (s : ByteArray) : Nat → List (Nat × Bool) → List Pc
  | _, [] => []
  | f, x :: r => ⟨pcB a tb (s.extract f x.1) x.2, x.1⟩ :: pcS a tb s x.1 r
theorem pcS_app (a tb : Nat) (s : ByteArray) : ∀ (x y : List (Nat × Bool)) (f : Nat), pcS a tb s f (x ++ y) = pcS a tb s f x ++ pcS a tb s (lastE f x) y
  | [], _, _ => rfl
  | p :: x, y, f => by
    rw [List.cons_append, pcS, pcS, pcS_app a tb s x y, List.cons_append]
    rfl
theorem lastE_app (f : Nat) (x : List (Nat × Bool)) (y : Nat × Bool) : lastE f (x ++ [y]) = y.1 := by simp [lastE]
theorem pcS_len (a tb : Nat) (s : ByteArray) : ∀ (x : List (Nat × Bool)) (f : Nat), (pcS a tb s f x).length = x.length
  | [], _ => rfl
  | _ :: x, _ => by rw [pcS, List.length_cons, pcS_len a tb s x]; rfl
def pcW (l : List Pc) : List Value := l.flatMap fun p => [.int .i64 (p.b.w : Nat), .int .i64 (p.b.b : Nat), .int .i64 (p.b.h : Nat), .bool p.b.m, .int .i64 (p.e : Nat)]
theorem pcW_app (x y : List Pc) : pcW (x ++ y) = pcW x ++ pcW y := by simp [pcW]
theorem Tryz.infoPc : (Tryz.prog.info? 76).map (fun i => (i.zero, i.size, i.bytes)) = some (some (.agg #[.int .i64 0, .int .i64 0, .int .i64 0, .bool false, .int .i64 0]), 5, 40) := by kernel_rfl
theorem KC.row {B B' size n : Nat} {e : TypeId} {W W' : World} {v : Value} {xs : List Value} (ho : W.ownsRow B' e size v n xs) (he : e ≠ 112) (hg : W.grownBy W' v.ownBlock) : KC B W W' := by
  refine ⟨hg.size, fun k c z hk hc => (hg.block k (blk_lt hc) (fun eb => ?_)).trans hc⟩
  rcases ho.2 with ⟨rfl, _⟩ | ⟨g, cap, cur, rfl, _, hgb, _⟩
  · cases eb
  · obtain rfl : k = g := by simpa [Value.ownBlock] using eb
    rw [hgb] at hc
    cases hc
    exact he rfl
theorem KC.cell {B b : Nat} {W : World} {c : Array Value} {ty : TypeId} {z : Nat × Nat} (h : W.heap[b]? = some (.cells c ty z)) (hty : ty ≠ 112) (i : Nat) (v : Value) : KC B W (W.setCell ⟨b, i, none⟩ v) := by
  have hg := grown_cell W b i v
  refine ⟨hg.size, fun k c' z' hk hc => (hg.block k (blk_lt hc) (fun e => ?_)).trans hc⟩
  obtain rfl := Option.some.inj e
  rw [h] at hc
  cases hc
  exact hty rfl
/-- What stands while the pieces are gathered. -/
structure PcI (Z a tb db : Nat) (s : ByteArray) (w3 : World) (pre : List (Nat × Bool)) (W : World) : Prop where
  l : ∃ v, Boxed W (Z + 1) 70 v ∧ W.ownsRow Z 76 5 v pre.length (pcW (pcS a tb s 0 pre))
  d : Boxed W Z 87 (.pointer (some ⟨db, 0, none⟩))
  f : Boxed W (Z + 1 + 1) 3 (.int .i64 (lastE 0 pre : Nat))
  x : Ext w3 W
  z : Z + 4 ≤ W.heap.size
theorem PcI.own {Z a tb db : Nat} {s : ByteArray} {w3 : World} (hZ : w3.heap.size = Z) (B : Nat) (hB : Z ≤ B) : OwnFrom B (PcI Z a tb db s w3) := by
  rintro pre X Y row h hg hr
  have hne : ∀ b c ty z, X.heap[b]? = some (.cells c ty z) → some b ≠ row := fun b c ty z hb e => by
    obtain ⟨_, o, ho, hc⟩ := hr b e.symm
    rw [hb] at ho; cases ho; cases hc
  obtain ⟨v, h1, h2⟩ := h.l
  refine ⟨⟨v, h1.kept hg (hne _ _ _ _ h1), h2.kept hg ?_⟩, h.d.kept hg (hne _ _ _ _ h.d), h.f.kept hg (hne _ _ _ _ h.f), Below.grown h.x hg h.x.sz (fun k e => by have := (hr k e).1; omega), Nat.le_trans h.z hg.size⟩
  rcases h2.2 with ⟨rfl, _⟩ | ⟨g, cap, cur, rfl, _, hgb, _⟩
  · exact .inl rfl
  · exact .inr fun e => hne _ _ _ _ hgb (by simpa [Value.ownBlock] using e)
set_option maxRecDepth 100000 in
set_option maxHeartbeats 2000000 in
theorem c_pieces_in (a tb st : Nat) (s : ByteArray) (w : World) (ho : CellOk a tb st) (hT : TabsW w) (hz : s.size ≤ 4000) :
    CallsIn Fence.wide 3 Tryz.prog 38 #[.string s, .agg #[.int .i64 (a : Nat), .int .i64 (tb : Nat), .int .i64 (st : Nat)]] w fun e w' => ∃ v, e = .returned (.tuple #[v, .int .i64 0]) ∧ w'.ownsRow w.heap.size 76 5 v (pcS a tb s 0 (chK s)).length (pcW (pcS a tb s 0 (chK s))) ∧ Ext w w' := by
  have hall : ∀ f, Fence.wide.fn f := fun _ => trivial
  have hro : Fence.wide.round = none := rfl
  have HT := Lib.hid hT
  have HO := Lib.hid ho
  have HO0 := Lib.hid (show CellOk a tb 0 by have := ho; unfold CellOk at this ⊢; omega)
  clear hT ho
  refine callsIn_of_wp_marks Tryz.func38 rfl (hall _) ?_ rfl
  simp only [Tryz.ntmps38, List.size_toArray, List.length_cons, List.length_nil, Nat.reduceAdd, Nat.reduceSub, Array.replicate_succ, Array.replicate_zero, List.push_toArray, List.append_toArray, List.nil_append, List.cons_append]
  refine wpIn_wide.2 ?_
  go_wp2_with fail
  have bS0 : Boxed ((w.alloc (.cells #[.string s] 9)).alloc (.cells #[.int .i64 (a : Nat), .int .i64 (tb : Nat), .int .i64 (st : Nat)] 48)) w.heap.size 9 (.string s) := (Boxed.new _ _ _).alloc _
  have bO0 : ((w.alloc (.cells #[.string s] 9)).alloc (.cells #[.int .i64 (a : Nat), .int .i64 (tb : Nat), .int .i64 (st : Nat)] 48)).heap[w.heap.size + 1]? = some (.cells #[.int .i64 (a : Nat), .int .i64 (tb : Nat), .int .i64 (st : Nat)] 48 (0, 0)) := by
    have := World.alloc_heap_new (w.alloc (.cells #[.string s] 9)) (.cells #[.int .i64 (a : Nat), .int .i64 (tb : Nat), .int .i64 (st : Nat)] 48)
    rwa [World.size_alloc] at this
  have hx0 : Ext w ((w.alloc (.cells #[.string s] 9)).alloc (.cells #[.int .i64 (a : Nat), .int .i64 (tb : Nat), .int .i64 (st : Nat)] 48)) := ((Ext.refl w).alloc _).alloc _
  generalize (w.alloc (.cells #[.string s] 9)).alloc (.cells #[.int .i64 (a : Nat), .int .i64 (tb : Nat), .int .i64 (st : Nat)] 48) = w0 at bS0 bO0 hx0 ⊢
  obtain ⟨A, hA⟩ : ∃ A, w.heap.size = A := ⟨_, rfl⟩
  have HA := Lib.hid hA
  rw [hA] at bS0 bO0 ⊢
  refine (c_wCheck a tb st w0).mono ?_
  rintro e w1 ⟨rfl, hx1⟩
  rw [if_pos HO.out]
  have BS1 := Lib.hid (bS0.ext hx1)
  have bO1 := hx1.blk bO0
  have HX1 := Lib.hid (hx0.trans hx1)
  have f2 := frz_blk bO1 2
  have k2 : w1.cell? ⟨A + 1, 2, none⟩ = some (.int .i64 (st : Nat)) := (cell_blk bO1 2).trans rfl
  have HO1 := Lib.hid bO1
  clear hx1 hx0 bO0 bO1 bS0 hA
  go_wp2_with fail
  have hg := grown_cell w1 (A + 1) 2 (.int .i64 0)
  have bS2 : Boxed (w1.setCell ⟨A + 1, 2, none⟩ (.int .i64 0)) A 9 (.string s) := BS1.out.kept hg (fun e => by have := Option.some.inj e; omega)
  have bO2 : (w1.setCell ⟨A + 1, 2, none⟩ (.int .i64 0)).heap[A + 1]? = some (.cells #[.int .i64 (a : Nat), .int .i64 (tb : Nat), .int .i64 0] 48 (0, 0)) := by
    have := set_blk HO1.out 2 (.int .i64 0)
    simpa using this
  have hx2 : Ext w (w1.setCell ⟨A + 1, 2, none⟩ (.int .i64 0)) := Below.setCell HX1.out (p := ⟨A + 1, 2, none⟩) (show w.heap.size ≤ A + 1 by have := HA.out; omega) _
  generalize w1.setCell ⟨A + 1, 2, none⟩ (.int .i64 0) = w2 at bS2 bO2 hx2 ⊢
  have HN := Lib.hid (c_New textLp.data.toList w2 (HT.out.ext hx2) (textB_spec textLp_ok))
  refine calls_arg (v := .string ⟨textLp.data.toList.toArray⟩) (by kernel_rfl) (HN.out.mono ?_)
  rintro e w3 ⟨db, rfl, h1, h2⟩
  have HD3 := Lib.hid h1
  have BS3 := Lib.hid (bS2.ext h2)
  have BO3 := Lib.hid (h2.blk bO2)
  have HX3 := Lib.hid (hx2.trans h2)
  clear h1 h2 HN bS2 bO2 hx2 hg k2 f2 HO1
  have ks : ∀ o1 o2 o3, (((w3.alloc o1).alloc o2).alloc o3).cell? ⟨A, 0, none⟩ = some (.string s) := fun o1 o2 o3 => (((BS3.out.alloc o1).alloc o2).alloc o3).cell
  go_wp2_with fail
  refine (c_lnEach s _).mono ?_
  rintro e w4 ⟨rfl, rfl⟩
  go_wp2_with fail
  obtain ⟨Z, hZ⟩ : ∃ Z, w3.heap.size = Z := ⟨_, rfl⟩
  have HZ := Lib.hid hZ
  rw [hZ]
  obtain ⟨wE, hwE⟩ : ∃ wE, wE = ((((w3.alloc (.cells #[.pointer (some ⟨db, 0, none⟩)] 87)).alloc (.cells #[.slice none 0 0] 70)).alloc (.cells #[.int .i64 0] 3)).alloc (.cells #[.string s] 9)) := ⟨_, rfl⟩
  have hszE : wE.heap.size = Z + 4 := by rw [hwE, ← hZ]; simp
  have hxE : Ext w3 wE := by rw [hwE]; exact ((((Ext.refl w3).alloc _).alloc _).alloc _).alloc _
  have bD : Boxed wE Z 87 (.pointer (some ⟨db, 0, none⟩)) := by rw [hwE, ← hZ]; exact (((Boxed.new _ _ _).alloc _).alloc _).alloc _
  have bL : Boxed wE (Z + 1) 70 (.slice none 0 0) := by rw [hwE, ← hZ]; have := Boxed.new (w3.alloc (.cells #[.pointer (some ⟨db, 0, none⟩)] 87)) 70 (.slice none 0 0); rw [World.size_alloc] at this; exact (this.alloc _).alloc _
  have bF : Boxed wE (Z + 1 + 1) 3 (.int .i64 0) := by rw [hwE, ← hZ]; have := Boxed.new ((w3.alloc (.cells #[.pointer (some ⟨db, 0, none⟩)] 87)).alloc (.cells #[.slice none 0 0] 70)) 3 (.int .i64 0); simp only [World.size_alloc] at this; exact this.alloc _
  have bQ : Boxed wE (Z + 1 + 1 + 1) 9 (.string s) := by rw [hwE, ← hZ]; have := Boxed.new (((w3.alloc (.cells #[.pointer (some ⟨db, 0, none⟩)] 87)).alloc (.cells #[.slice none 0 0] 70)).alloc (.cells #[.int .i64 0] 3)) 9 (.string s); simp only [World.size_alloc] at this; exact this
  rw [← hwE]
  clear hwE ks hZ
  have HC := Lib.hid (chK_len s)
  refine (wpIn_wide (n := 3)).1 ?_
  refine wpIn_rangeFunc_p hro (by decide) (gf := 58) (lb := #[.pointer (some ⟨Z + 1 + 1 + 1, 0, none⟩)]) rfl (hall _) (enters_of Tryz.func58 (by kernel_rfl) rfl)
    (ln_gives s (3 - 1) (Z + 1 + 1 + 1) wE.heap.size wE wE (HT.out.ext (HX3.out.trans hxE)) (by omega) (Ext.refl _) (Nat.le_refl _) bQ) (fun h k => h.trans k)
    (fun W l o o' _ h ho => KC.put W l o o' h ho) (fun _ => rfl)
    (PcI Z a tb db s w3) (PcI.own HZ.out _ (by omega))
    ⟨⟨_, bL, World.ownsRow_nil _ _ _ _⟩, bD, bF, hxE, by omega⟩
    (fun x => { tmps := #[.string s, .agg #[.int .i64 (a : Nat), .int .i64 (tb : Nat), .int .i64 (st : Nat)], .pointer (some ⟨A, 0, none⟩), .pointer (some ⟨A + 1, 0, none⟩), .slice none 0 0, .int .i64 0, .int .i64 0, .pointer (some ⟨Z, 0, none⟩), .int .i64 0, .int .i64 0, .pointer (some ⟨Z + 1, 0, none⟩), .pointer (some ⟨Z + 1 + 1, 0, none⟩), .int .i64 (x.1 : Nat), .bool x.2, undef, undef, undef, undef, undef, .agg #[.int .i64 (a : Nat), .int .i64 (tb : Nat), .int .i64 (st : Nat)], .int .i64 0, .int .i64 0, .bool false, undef, .pointer (some ⟨A + 1, 2, none⟩), .tuple #[.pointer (some ⟨db, 0, none⟩), .int .i64 0, .int .i64 0], .tuple #[.pointer (some ⟨db, 0, none⟩), .int .i64 0, .int .i64 0], .pointer (some ⟨db, 0, none⟩), .int .i64 0, .int .i64 0, .string s, .func (.func 58) #[] #[.pointer (some ⟨Z + 1 + 1 + 1, 0, none⟩)], .int .i64 (x.1 : Nat), .bool x.2, undef, undef, undef, undef, undef, undef, undef, undef, undef, undef, undef, undef, undef, undef, undef, undef, undef, undef, undef, undef, undef, undef, undef, undef, undef, undef, undef, undef, undef, undef, undef, undef, undef, undef, undef, undef, undef, undef, undef], defers := [] }) ?assign ?body ?done
  case assign =>
    intro l x W K hK
    gi_wp2
    exact hK
  case done =>
    rintro D W hD hI hK
    obtain ⟨v, hv, hrow⟩ := hI.l
    have HI := Lib.hid hI
    have HROW := Lib.hid hrow
    have HV := Lib.hid hv
    have HD := Lib.hid hD
    have hc := hv.cell
    obtain ⟨pv, cv, rfl⟩ := own_slice hrow
    have hle : ¬ (4096 : Int) < ((chK s).length : Nat) := by have := HC.out; omega
    clear hI hrow hD hv
    go_wp2_with fail
    refine ⟨by simp, .inl ⟨_, _, rfl, run_takeDeferred hK, ?_⟩⟩
    refine ⟨_, results_tmp2 rfl _ _ _, _, rfl, ?_, HX3.out.trans (show Ext w3 _ from Below.trans HI.out.x (belowK_b (w := w3) (Nat.le_refl _) W D _ _ (by have := HD.out; have := HZ.out; omega) hK rfl rfl))⟩
    have h2 := ownsRow_putObj HROW.out (.deferred none) hK rfl
    rw [pcS_len]
    exact own_lower h2 (by have := HX3.out.sz; have := HZ.out; omega)
  case body =>
    rintro l pre x W hI hpx
    obtain ⟨v, hv, hrow⟩ := hI.l
    have HV := Lib.hid hv
    have HROW := Lib.hid hrow
    have HI := Lib.hid hI
    have HIW := Lib.hid (show Z + 4 ≤ W.heap.size from hI.z)
    obtain ⟨t0, hpx⟩ := hpx
    obtain ⟨hf1, hf2⟩ := last_lt s hpx
    have hplen : pre.length ≤ 4001 := by
      have h1 := HC.out
      rw [hpx, List.length_append, List.length_cons] at h1
      omega
    obtain ⟨x1, xm⟩ := x
    simp only at hf1 hf2
    obtain ⟨fr, hfr⟩ : ∃ fr, lastE 0 pre = fr := ⟨_, rfl⟩
    rw [hfr] at hf1
    have HFR := Lib.hid hfr
    have hf3 : ((fr : Nat) : Int) ≤ (x1 : Nat) := by omega
    have hf3n : fr ≤ x1 := by omega
    have hf2I : ((x1 : Nat) : Int) ≤ (s.size : Nat) := by omega
    have hzI : ((s.size : Nat) : Int) ≤ 4000 := by omega
    obtain ⟨pv, cv, rfl⟩ := own_slice hrow
    have c0 : W.cell? ⟨A, 0, none⟩ = some (.string s) := (BS3.out.ext HI.out.x).cell
    have c1 : W.cell? ⟨Z + 1 + 1, 0, none⟩ = some (.int .i64 (fr : Nat)) := by rw [← hfr]; exact HI.out.f.cell
    obtain ⟨T, hT⟩ : ∃ T, s.extract fr x1 = T := ⟨_, rfl⟩
    have hTs : T.size = x1 - fr := by rw [← hT]; simp; omega
    have HTT := Lib.hid hT
    clear hv hrow hI hpx hfr
    gi_wp2_with fail
    clear hT
    refine ((callsIn_wide.2 (c_Trail T W (HT.out.ext (HX3.out.trans HI.out.x)) (by omega))).inRound l).mono ?_
    rintro e W1 ⟨rfl, hx1⟩
    have hTL := trailL_le okT T.size T.data.toList
    rw [len_eq] at hTL
    have HBV := Lib.hid (show pcB a tb T xm = ⟨min (txtK a tb 0 (T.extract 0 (trailL okT T.size T.data.toList))) 100000, min (txtK a tb 0 (T.extract 0 (trailL okI T.size T.data.toList)) - txtK a tb 0 (T.extract 0 (trailL okT T.size T.data.toList))) 100000, if Lib.hasSuffix (T.extract 0 (trailL okT T.size T.data.toList)).data.toList [194, 173] = true then 1 else 0, xm⟩ from rfl)
    generalize trailL okT T.size T.data.toList = TL at hTL HBV ⊢
    have hTLI : ((TL : Nat) : Int) ≤ (T.size : Nat) := by omega
    obtain ⟨SN, hSN⟩ : ∃ SN, T.extract 0 TL = SN := ⟨_, rfl⟩
    have hSs : SN.size = TL := by rw [← hSN]; simp; omega
    rw [hSN] at HBV
    have HX1 := Lib.hid (show Ext W W1 from hx1)
    have bO := HX1.out.blk (HI.out.x.blk BO3.out)
    have bDd := HI.out.d.ext HX1.out
    have s0 : ∀ w', EOn (fun _ => True) W1 w' → w'.cell? ⟨A + 1, 0, none⟩ = some (.int .i64 (a : Nat)) := fun w' h => h.cell trivial ((cell_blk bO 0).trans rfl)
    have s1 : ∀ w', EOn (fun _ => True) W1 w' → w'.cell? ⟨A + 1, 1, none⟩ = some (.int .i64 (tb : Nat)) := fun w' h => h.cell trivial ((cell_blk bO 1).trans rfl)
    have s2 : ∀ w', EOn (fun _ => True) W1 w' → w'.cell? ⟨A + 1, 2, none⟩ = some (.int .i64 0) := fun w' h => h.cell trivial ((cell_blk bO 2).trans rfl)
    have s3 : ∀ w', EOn (fun _ => True) W1 w' → w'.cell? ⟨Z, 0, none⟩ = some (.pointer (some ⟨db, 0, none⟩)) := fun w' h => h.cell trivial bDd.cell
    clear hx1 bO bDd c0 c1
    gi_wp2_with fail
    clear hSN
    refine wpIn_perm (fun _ => True) [0, 1, 3, 4, 6, 2, 5, 7, 8, 9] [true, true, true, true, true, false, false, false, true] (by kernel_rfl) (by kernel_rfl) (by kernel_rfl) (by simp only [List.map_cons, List.map_nil, nth]; rfl) ?_
    repeat first
      | refine wpG_move' ?_
      | refine wpG_assign' ?_
      | refine wpG_val' ?_
      | refine wpG_no' ?_
    clear s0 s1 s2 s3
    refine wpG_do (by rfl) (fun w4 hx4 K hK => ?_)
    go_wp2_with fail
    refine (c_wText0 a tb SN w4 HO0.out (HT.out.ext (HX3.out.trans (HI.out.x.trans (HX1.out.trans hx4)))) (by omega)).mono ?_
    rintro e w5 ⟨rfl, hx5⟩
    obtain ⟨lg, hlg⟩ : ∃ lg, txtK a tb 0 SN = lg := ⟨_, rfl⟩
    have hlb := txtK_le a tb 0 SN HO0.out (by omega)
    rw [hlg] at hlb HBV ⊢
    refine hK _ _ ⟨EOn.of_ext hx5, ?_⟩
    have HX5 := Lib.hid (HX1.out.trans (hx4.trans hx5))
    clear hK hx4 hx5 hlg HX1
    refine wpG_do (by rfl) (fun w6 hx6 K hK => ?_)
    go_wp2_with fail
    refine (c_inner db T w6 (HD3.out.ext (HI.out.x.trans (HX5.out.trans hx6))) (HT.out.ext (HX3.out.trans (HI.out.x.trans (HX5.out.trans hx6)))) (by omega)).mono ?_
    rintro e w7 ⟨rfl, hx7⟩
    obtain ⟨IN, hIN⟩ : ∃ IN, T.extract 0 (trailL okI T.size T.data.toList) = IN := ⟨_, rfl⟩
    have hIs : IN.size ≤ T.size := by rw [← hIN]; simp; omega
    rw [hIN] at HBV ⊢
    refine hK _ _ ⟨EOn.of_ext hx7, ?_⟩
    have HX7 := Lib.hid (HX5.out.trans (hx6.trans hx7))
    clear hK hx6 hx7 hIN HX5
    refine wpG_do (by rfl) (fun w8 hx8 K hK => ?_)
    go_wp2_with fail
    refine (c_wText0 a tb IN w8 HO0.out (HT.out.ext (HX3.out.trans (HI.out.x.trans (HX7.out.trans hx8)))) (by omega)).mono ?_
    rintro e w9 ⟨rfl, hx9⟩
    obtain ⟨al, hal⟩ : ∃ al, txtK a tb 0 IN = al := ⟨_, rfl⟩
    have hab := txtK_le a tb 0 IN HO0.out (by omega)
    rw [hal] at hab HBV ⊢
    refine hK _ _ ⟨EOn.of_ext hx9, ?_⟩
    have HX9 := Lib.hid (HX7.out.trans (hx8.trans hx9))
    clear hK hx8 hx9 hal HX7
    repeat first
      | refine wpG_move' ?_
      | refine wpG_assign' ?_
      | refine wpG_val' ?_
      | refine wpG_no' ?_
    refine wpG_end (fun w10 hx10 => ?_)
    have HX10 := Lib.hid (HX9.out.trans hx10)
    clear hx10 HX9
    have hlI : ((lg : Nat) : Int) ≤ 1080000000 := by omega
    have haI : ((al : Nat) : Int) ≤ 1080000000 := by omega
    go_wp2_with fail
    refine gQ_normal ⟨rfl, ?_⟩
    gi_wp2_with fail
    have hb11 := World.alloc_heap_new w10 (.cells #[.int .i64 (min (lg : Int) 100000), .int .i64 (min (max ((al : Int) - lg) 0) 100000), .int .i64 0, .bool xm] 45)
    have hx11 := (Ext.refl w10).alloc (.cells #[.int .i64 (min (lg : Int) 100000), .int .i64 (min (max ((al : Int) - lg) 0) 100000), .int .i64 0, .bool xm] 45)
    generalize w10.alloc (.cells #[.int .i64 (min (lg : Int) 100000), .int .i64 (min (max ((al : Int) - lg) 0) 100000), .int .i64 0, .bool xm] 45) = w11 at hb11 hx11 ⊢
    obtain ⟨bb, hbb⟩ : ∃ bb, w10.heap.size = bb := ⟨_, rfl⟩
    rw [hbb] at hb11 ⊢
    have hbZ : Z + 4 ≤ bb := by have := HX10.out.sz; have := HIW.out; omega
    obtain ⟨p1, hp1⟩ : ∃ p1, min lg 100000 = p1 := ⟨_, rfl⟩
    obtain ⟨p2, hp2⟩ : ∃ p2, min (al - lg) 100000 = p2 := ⟨_, rfl⟩
    have e1 : min (lg : Int) 100000 = (p1 : Nat) := by omega
    have e2 : min (max ((al : Int) - lg) 0) 100000 = (p2 : Nat) := by omega
    rw [hp1, hp2] at HBV
    rw [e1, e2] at hb11
    obtain ⟨hs', hhs⟩ : ∃ b, Lib.hasSuffix SN.data.toList [194, 173] = b := ⟨_, rfl⟩
    rw [hhs] at HBV
    have HB11 := Lib.hid hb11
    have HX11 := Lib.hid (HX10.out.trans hx11)
    have HBB := Lib.hid (show W.heap.size ≤ bb by have := HX10.out.sz; omega)
    have HHS := Lib.hid hhs
    generalize min (max ((al : Int) - lg) 0) 100000 = m2
    generalize min (lg : Int) 100000 = m1
    clear e1 e2 hb11 hx11 hbb hbZ hhs hlI haI HX10 hp1 hp2
    refine ((callsIn_wide.2 (Tryz.strings_HasSuffix SN ⟨#[194, 173]⟩ w11 (by omega))).inRound l).mono ?_
    rintro e w12 ⟨rfl, rfl⟩
    rw [show Lib.hasSuffix SN.data.toList (⟨#[194, 173]⟩ : ByteArray).data.toList = hs' from HHS.out]
    cases hs'
    · have HBV2 := Lib.hid (show pcB a tb T xm = ⟨p1, p2, 0, xm⟩ from HBV.out)
      have q0 := (cell_blk HB11.out 0).trans rfl
      have q1 : w12.cell? ⟨bb, 1, none⟩ = some (.int .i64 (p2 : Nat)) := (cell_blk HB11.out 1).trans rfl
      have q2 : w12.cell? ⟨bb, 2, none⟩ = some (.int .i64 0) := (cell_blk HB11.out 2).trans rfl
      have q3 : w12.cell? ⟨bb, 3, none⟩ = some (.bool xm) := (cell_blk HB11.out 3).trans rfl
      have cz : w12.cell? ⟨Z + 1, 0, none⟩ = some (.slice pv pre.length cv) := (HV.out.ext HX11.out).cell
      have HXB := Lib.hid HX11.out
      clear HBV
      gi_wp2_with (gi_at_builtin; refine Hid.out ?_)
      obtain ⟨i0, hi, hz0, hz1, hz2⟩ := info_parts Tryz.infoPc
      have hnew := World.news_of_block (World.alloc_heap_new w12 (.cells #[.int .i64 (p1 : Nat), .int .i64 (p2 : Nat), .int .i64 0, .bool xm, .int .i64 (x1 : Nat)] 76))
      skip
      have HX7 := Lib.hid (HXB.out.alloc (.cells #[.int .i64 (p1 : Nat), .int .i64 (p2 : Nat), .int .i64 0, .bool xm, .int .i64 (x1 : Nat)] 76))
      refine wpListIn_append_own _ rfl (.tmp 62) (.tmp 66) 70 rfl Z 76 i0 (.agg #[.int .i64 0, .int .i64 0, .int .i64 0, .bool false, .int .i64 0]) 5 40 Tryz.underlying70 hi hz0 hz1 hz2 rfl (by decide) (.slice pv pre.length cv) pre.length _ rfl (ownsRow_ext HROW.out HX7.out) ⟨w12.heap.size, 0, none⟩ 1 1 [.int .i64 (p1 : Nat), .int .i64 (p2 : Nat), .int .i64 0, .bool xm, .int .i64 (x1 : Nat)] rfl rfl hnew (by intro u hu; simp at hu; rcases hu with rfl | rfl | rfl | rfl | rfl <;> rfl) (by unfold maxLen; omega) (by omega) (by have := HX7.out.sz; have := HIW.out; omega) ?_
      intro v' w8 hown8 hgrow8 _
      obtain ⟨p', c', rfl⟩ := own_slice hown8
      have HX := Lib.hid (And.intro hown8 hgrow8)
      have hv7 := HV.out.ext HX7.out
      have hrow7 := ownsRow_ext HROW.out HX7.out
      have hv8 := hv7.kept hgrow8 (hv7.not_row (by decide) hrow7)
      have hc7 := HI.out.f.ext HX7.out
      have hc8 := hc7.kept hgrow8 (hc7.not_row (by decide) hrow7)
      have HV8 := Lib.hid hv8
      have HC8 := Lib.hid hc8
      have e1 := hv8.cell
      have e2 := hv8.frozen
      have hc9 := hc8.other (show Z + 1 + 1 ≠ Z + 1 by omega) (.slice p' (pre.length + 1) c')
      have e3 := hc9.cell
      have e4 := hc9.frozen
      clear hown8 hgrow8 hv7 hrow7 hv8 hc7 hc8 hc9 q0 q1 q2 q3 cz
      gi_wp2_with fail
      have hown7 := ownsRow_ext HROW.out HX7.out
      obtain ⟨hown8, hgrow8⟩ := HX.out
      have hv8 := HV8.out
      have hc8 := HC8.out
      have hd8 := (HI.out.d.ext HX7.out).kept hgrow8 ((HI.out.d.ext HX7.out).not_row (by decide) hown7)
      have hown9 : (w8.setCell ⟨Z + 1, 0, none⟩ (.slice p' (pre.length + 1) c')).ownsRow Z 76 5 (.slice p' (pre.length + 1) c') (pre.length + 1) _ := hown8.kept (grown_cell _ _ _ _) (.inr (hv8.not_row (by decide) hown8).symm)
      have hc9 := hc8.other (show Z + 1 + 1 ≠ Z + 1 by omega) (.slice p' (pre.length + 1) c')
      refine ⟨?_, ?_, ?_⟩
      · exact (((keeps_ext HX7.out).trans (KeepsOthers.of_grownBy hgrow8 fun j o ej hj => by
          rcases hown7.2 with ⟨h1, _⟩ | ⟨g, cap, cur, h1, _, hgb, _⟩
          · rw [h1] at ej; simp [Value.ownBlock] at ej
          · rw [h1] at ej
            obtain rfl : g = j := by simpa [Value.ownBlock] using ej
            rw [hgb] at hj; cases hj; rfl)).trans (KeepsOthers.setCell _ _ _)).trans (KeepsOthers.setCell _ _ _)
      · exact (((KC.of_ext HX7.out).trans (KC.row hown7 (by decide) hgrow8)).trans (KC.cell hv8 (by decide) _ _)).trans (KC.cell hc9 (by decide) _ _)
      · refine ⟨⟨_, (hv8.set (.slice p' (pre.length + 1) c')).other (show Z + 1 ≠ Z + 1 + 1 by omega) _, ?_⟩, (hd8.other (show Z ≠ Z + 1 by omega) _).other (show Z ≠ Z + 1 + 1 by omega) _, ?_, ?_, ?_⟩
        · have h3 := hown9.kept (grown_cell _ (Z + 1 + 1) 0 (.int .i64 (x1 : Nat))) (.inr (hc9.not_row (by decide) hown9).symm)
          rw [pcS_app, pcW_app, HFR.out, List.length_append]
          have e5 : pcW (pcS a tb s fr [(x1, xm)]) = [.int .i64 (p1 : Nat), .int .i64 (p2 : Nat), .int .i64 0, .bool xm, .int .i64 (x1 : Nat)] := by
            simp only [pcS, pcW, List.flatMap_cons, List.flatMap_nil, HTT.out, HBV2.out]
            rfl
          rw [e5]
          exact h3
        · rw [lastE_app]
          exact hc9.set _
        · have h0 : Below w3.heap.size w3 w8 := Below.grown (HI.out.x.trans HX7.out) hgrow8 (HI.out.x.trans HX7.out).sz (fun k e => by rw [HZ.out]; exact (hown7.lt _ e).1)
          exact (h0.setCell (p := ⟨Z + 1, 0, none⟩) (by show w3.heap.size ≤ Z + 1; have := HZ.out; omega) _).setCell (p := ⟨Z + 1 + 1, 0, none⟩) (by show w3.heap.size ≤ Z + 1 + 1; have := HZ.out; omega) _
        · have h1 := HX7.out.sz
          have h2 := hgrow8.size
          have h3 := (grown_cell w8 (Z + 1) 0 (.slice p' (pre.length + 1) c')).size
          have h4 := (grown_cell (w8.setCell ⟨Z + 1, 0, none⟩ (.slice p' (pre.length + 1) c')) (Z + 1 + 1) 0 (.int .i64 (x1 : Nat))).size
          have := HIW.out
          omega
    · have HBV2 := Lib.hid (show pcB a tb T xm = ⟨p1, p2, 1, xm⟩ from HBV.out)
      have f2 := frz_blk HB11.out 2
      have q2a : w12.cell? ⟨bb, 2, none⟩ = some (.int .i64 0) := (cell_blk HB11.out 2).trans rfl
      have hgs := grown_cell w12 bb 2 (.int .i64 1)
      have hb13 : (w12.setCell ⟨bb, 2, none⟩ (.int .i64 1)).heap[bb]? = some (.cells #[.int .i64 (p1 : Nat), .int .i64 (p2 : Nat), .int .i64 1, .bool xm] 45 (0, 0)) := by
        have := set_blk HB11.out 2 (.int .i64 1)
        simpa using this
      have HXB := Lib.hid (show Ext W (w12.setCell ⟨bb, 2, none⟩ (.int .i64 1)) from Below.setCell HX11.out (p := ⟨bb, 2, none⟩) HBB.out _)
      have q0 := (cell_blk hb13 0).trans rfl
      have q1 : (w12.setCell ⟨bb, 2, none⟩ (.int .i64 1)).cell? ⟨bb, 1, none⟩ = some (.int .i64 (p2 : Nat)) := (cell_blk hb13 1).trans rfl
      have q2 : (w12.setCell ⟨bb, 2, none⟩ (.int .i64 1)).cell? ⟨bb, 2, none⟩ = some (.int .i64 1) := (cell_blk hb13 2).trans rfl
      have q3 : (w12.setCell ⟨bb, 2, none⟩ (.int .i64 1)).cell? ⟨bb, 3, none⟩ = some (.bool xm) := (cell_blk hb13 3).trans rfl
      have cz : (w12.setCell ⟨bb, 2, none⟩ (.int .i64 1)).cell? ⟨Z + 1, 0, none⟩ = some (.slice pv pre.length cv) := (HV.out.ext HXB.out).cell
      clear HBV hgs hb13
      gi_wp2_with (gi_at_builtin; refine Hid.out ?_)
      obtain ⟨i0, hi, hz0, hz1, hz2⟩ := info_parts Tryz.infoPc
      have hnew := World.news_of_block (World.alloc_heap_new (w12.setCell ⟨bb, 2, none⟩ (.int .i64 1)) (.cells #[.int .i64 (p1 : Nat), .int .i64 (p2 : Nat), .int .i64 1, .bool xm, .int .i64 (x1 : Nat)] 76))
      rw [show (w12.setCell ⟨bb, 2, none⟩ (.int .i64 1)).heap.size = w12.heap.size by simp] at hnew
      have HX7 := Lib.hid (HXB.out.alloc (.cells #[.int .i64 (p1 : Nat), .int .i64 (p2 : Nat), .int .i64 1, .bool xm, .int .i64 (x1 : Nat)] 76))
      refine wpListIn_append_own _ rfl (.tmp 62) (.tmp 66) 70 rfl Z 76 i0 (.agg #[.int .i64 0, .int .i64 0, .int .i64 0, .bool false, .int .i64 0]) 5 40 Tryz.underlying70 hi hz0 hz1 hz2 rfl (by decide) (.slice pv pre.length cv) pre.length _ rfl (ownsRow_ext HROW.out HX7.out) ⟨w12.heap.size, 0, none⟩ 1 1 [.int .i64 (p1 : Nat), .int .i64 (p2 : Nat), .int .i64 1, .bool xm, .int .i64 (x1 : Nat)] rfl rfl hnew (by intro u hu; simp at hu; rcases hu with rfl | rfl | rfl | rfl | rfl <;> rfl) (by unfold maxLen; omega) (by omega) (by have := HX7.out.sz; have := HIW.out; omega) ?_
      intro v' w8 hown8 hgrow8 _
      obtain ⟨p', c', rfl⟩ := own_slice hown8
      have HX := Lib.hid (And.intro hown8 hgrow8)
      have hv7 := HV.out.ext HX7.out
      have hrow7 := ownsRow_ext HROW.out HX7.out
      have hv8 := hv7.kept hgrow8 (hv7.not_row (by decide) hrow7)
      have hc7 := HI.out.f.ext HX7.out
      have hc8 := hc7.kept hgrow8 (hc7.not_row (by decide) hrow7)
      have HV8 := Lib.hid hv8
      have HC8 := Lib.hid hc8
      have e1 := hv8.cell
      have e2 := hv8.frozen
      have hc9 := hc8.other (show Z + 1 + 1 ≠ Z + 1 by omega) (.slice p' (pre.length + 1) c')
      have e3 := hc9.cell
      have e4 := hc9.frozen
      clear hown8 hgrow8 hv7 hrow7 hv8 hc7 hc8 hc9 q0 q1 q2 q3 cz
      gi_wp2_with fail
      have hown7 := ownsRow_ext HROW.out HX7.out
      obtain ⟨hown8, hgrow8⟩ := HX.out
      have hv8 := HV8.out
      have hc8 := HC8.out
      have hd8 := (HI.out.d.ext HX7.out).kept hgrow8 ((HI.out.d.ext HX7.out).not_row (by decide) hown7)
      have hown9 : (w8.setCell ⟨Z + 1, 0, none⟩ (.slice p' (pre.length + 1) c')).ownsRow Z 76 5 (.slice p' (pre.length + 1) c') (pre.length + 1) _ := hown8.kept (grown_cell _ _ _ _) (.inr (hv8.not_row (by decide) hown8).symm)
      have hc9 := hc8.other (show Z + 1 + 1 ≠ Z + 1 by omega) (.slice p' (pre.length + 1) c')
      refine ⟨?_, ?_, ?_⟩
      · exact (((keeps_ext HX7.out).trans (KeepsOthers.of_grownBy hgrow8 fun j o ej hj => by
          rcases hown7.2 with ⟨h1, _⟩ | ⟨g, cap, cur, h1, _, hgb, _⟩
          · rw [h1] at ej; simp [Value.ownBlock] at ej
          · rw [h1] at ej
            obtain rfl : g = j := by simpa [Value.ownBlock] using ej
            rw [hgb] at hj; cases hj; rfl)).trans (KeepsOthers.setCell _ _ _)).trans (KeepsOthers.setCell _ _ _)
      · exact (((KC.of_ext HX7.out).trans (KC.row hown7 (by decide) hgrow8)).trans (KC.cell hv8 (by decide) _ _)).trans (KC.cell hc9 (by decide) _ _)
      · refine ⟨⟨_, (hv8.set (.slice p' (pre.length + 1) c')).other (show Z + 1 ≠ Z + 1 + 1 by omega) _, ?_⟩, (hd8.other (show Z ≠ Z + 1 by omega) _).other (show Z ≠ Z + 1 + 1 by omega) _, ?_, ?_, ?_⟩
        · have h3 := hown9.kept (grown_cell _ (Z + 1 + 1) 0 (.int .i64 (x1 : Nat))) (.inr (hc9.not_row (by decide) hown9).symm)
          rw [pcS_app, pcW_app, HFR.out, List.length_append]
          have e5 : pcW (pcS a tb s fr [(x1, xm)]) = [.int .i64 (p1 : Nat), .int .i64 (p2 : Nat), .int .i64 1, .bool xm, .int .i64 (x1 : Nat)] := by
            simp only [pcS, pcW, List.flatMap_cons, List.flatMap_nil, HTT.out, HBV2.out]
            rfl
          rw [e5]
          exact h3
        · rw [lastE_app]
          exact hc9.set _
        · have h0 : Below w3.heap.size w3 w8 := Below.grown (HI.out.x.trans HX7.out) hgrow8 (HI.out.x.trans HX7.out).sz (fun k e => by rw [HZ.out]; exact (hown7.lt _ e).1)
          exact (h0.setCell (p := ⟨Z + 1, 0, none⟩) (by show w3.heap.size ≤ Z + 1; have := HZ.out; omega) _).setCell (p := ⟨Z + 1 + 1, 0, none⟩) (by show w3.heap.size ≤ Z + 1 + 1; have := HZ.out; omega) _
        · have h1 := HX7.out.sz
          have h2 := hgrow8.size
          have h3 := (grown_cell w8 (Z + 1) 0 (.slice p' (pre.length + 1) c')).size
          have h4 := (grown_cell (w8.setCell ⟨Z + 1, 0, none⟩ (.slice p' (pre.length + 1) c')) (Z + 1 + 1) 0 (.int .i64 (x1 : Nat))).size
          have := HIW.out
          omega
theorem c_pieces (a tb st : Nat) (s : ByteArray) (w : World) (ho : CellOk a tb st) (hT : TabsW w) (hz : s.size ≤ 4000) :
    Calls Tryz.prog 38 #[.string s, .agg #[.int .i64 (a : Nat), .int .i64 (tb : Nat), .int .i64 (st : Nat)]] w fun e w' => ∃ v, e = .returned (.tuple #[v, .int .i64 0]) ∧ w'.ownsRow w.heap.size 76 5 v (pcS a tb s 0 (chK s)).length (pcW (pcS a tb s 0 (chK s))) ∧ Ext w w' := callsIn_wide.1 (c_pieces_in a tb st s w ho hT hz)
set_option maxRecDepth 100000 in
set_option maxHeartbeats 2000000 in
/-- Cells that may not be so: no pieces. -/
theorem c_piecesE (a tb st : Int) (s : ByteArray) (w : World) (ho : ¬ CellOk a tb st) :
    Calls Tryz.prog 38 #[.string s, .agg #[.int .i64 a, .int .i64 tb, .int .i64 st]] w fun e w' => e = .returned (.tuple #[.slice none 0 0, .int .i64 2]) ∧ Ext w w' := by
  have HO := Lib.hid ho
  clear ho
  go_enter Tryz.func38, Tryz.ntmps38
  go_wp2_with fail
  have hx0 : Ext w ((w.alloc (.cells #[.string s] 9)).alloc (.cells #[.int .i64 a, .int .i64 tb, .int .i64 st] 48)) := ((Ext.refl w).alloc _).alloc _
  generalize (w.alloc (.cells #[.string s] 9)).alloc (.cells #[.int .i64 a, .int .i64 tb, .int .i64 st] 48) = w0 at hx0 ⊢
  generalize w.heap.size = A
  refine (c_wCheck a tb st w0).mono ?_
  rintro e w1 ⟨rfl, hx1⟩
  rw [if_neg HO.out]
  have HX1 := Lib.hid (hx0.trans hx1)
  clear hx0 hx1
  go_wp2_with fail
  exact ret_two rfl rfl rfl rfl ⟨rfl, HX1.out⟩
end Go.Proofs.YtlmkbldiicbejaaGreatDoor
