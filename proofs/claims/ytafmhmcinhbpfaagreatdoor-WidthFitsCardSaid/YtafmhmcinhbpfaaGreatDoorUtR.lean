/-
  The runes of a text, one by one; a row of them.
-/
import Derived.Test.YtafmhmcinhbpfaaGreatDoorGaE
import Derived.RangeFuncBox
import Derived.RangeFuncWrites
namespace Go.Proofs.YtafmhmcinhbpfaaGreatDoor
open Go.RowKit Go.Rp Go.Maps Go.Cl Go.Shelf Go.Gr

attribute [local go_sem] Oper.semAt_some
abbrev Mk : Type := {m : Nat × Nat × Nat // m.1 ≤ 1114111 ∧ m.2.1 ≤ 65536}
theorem mk_ok (s : ByteArray) (hz : s.size ≤ 65536) : ∀ m ∈ mk s, m.1 ≤ 1114111 ∧ m.2.1 ≤ 65536 := by
  intro m hm
  have h1 := marks_place s.size s.data.toList 0 (by rw [len_eq]; omega) hm
  rw [len_eq] at h1
  refine ⟨?_, by omega⟩
  have key : ∀ (n : Nat) (l : List UInt8) (p : Nat), ∀ m ∈ marks n l p, m.1 ≤ 1114111 := by
    intro n
    induction n with
    | zero => intro l p m hm; simp [marks] at hm
    | succ n ih =>
      intro l p m hm
      by_cases h : l = []
      · subst h; simp [marks_nil] at hm
      · rw [marks_step _ _ _ h] at hm
        rcases List.mem_cons.1 hm with rfl | hm
        · have := dec_max ⟨l.toArray⟩ 0
          rw [dec_run] at this
          exact this
        · exact ih _ _ m hm
  exact key _ _ _ m hm
theorem u_kept {s : ByteArray} {A C : World} {b pos : Nat} (h : KeepsWalks A C) (hb : A.heap[b]? = some (.stringIter s pos)) : C.heap[b]? = some (.stringIter s pos) := h.2 b _ hb rfl
theorem grownBy_iterAt (W : World) (k : Nat) (s : ByteArray) (pos : Nat) : W.grownBy (W.iterAt k s pos) (some k) :=
  ⟨rfl, rfl, rfl, by rw [Lib.iterAt_size]; exact Nat.le_refl _, fun j _ hne => Lib.iterAt_other W k j s pos (fun e => hne (by rw [e]))⟩
set_option maxRecDepth 100000 in
set_option maxHeartbeats 4000000 in
/-- The function that Each hands back. -/
theorem u_stops {α : Type} (val : α → Nat × Nat × Nat) (PA : List α) (s : ByteArray) (hPA : PA.map val = mk s) (n Bs : Nat) (w0 w : World) (hx0 : Ext w0 w) (hBs : w0.heap[Bs]? = some (.cells #[.string s] 9 (0, 0))) :
    SeqStopsK Fence.wide n Tryz.prog 91 #[.pointer (some ⟨Bs, 0, none⟩)] (fun x : α => #[Value.int .i64 ((val x).2.1 : Nat), Value.int .i32 ((val x).1 : Nat)]) KeepsWalks
      (fun ys => ys = PA) (fun pre => pre <+: PA) PA.length w := by
  intro l J Jx W hW hJ hJx hY h0
  have hall : ∀ f, Fence.wide.fn f := fun _ => trivial
  have hdd : ∀ k : Nat, (Fence.wide.depth.isSome = true → 1 ≤ k) := fun k h => by cases h
  have hxW : Ext w0 W := hx0.trans hW
  have hps : PA.length = (mk s).length := by rw [← hPA, List.length_map]
  have hgt : ∀ (i : Nat) (h : i < PA.length) (h1 : i < (mk s).length), val PA[i] = (mk s)[i] := fun i h h1 => by
    have : (PA.map val)[i]'(by simpa using h) = val PA[i] := by simp
    rw [← this]
    congr 1
  clear hPA
  have HG := Lib.hid hgt
  have HJ := Lib.hid hJ
  have HY := Lib.hid hY
  have H0 := Lib.hid h0
  have ca := cell_blk (hxW.blk hBs) 0
  clear hJ hJx hY h0 hgt
  refine callsIn_of_wp Tryz.func91 rfl (hall _) ?_ rfl
  simp only [Tryz.ntmps91, List.size_toArray, List.length_cons, List.length_nil, Nat.reduceAdd, Nat.reduceSub, Array.replicate_succ, Array.replicate_zero, List.push_toArray, List.append_toArray, List.nil_append, List.cons_append]
  gi_wp2_with fail
  gi_loopw [3, 4] (fun _ _ wr => ∃ i pos : Nat, wr.heap[W.heap.size]? = some (.stringIter s pos) ∧ Hid (AtM s i pos) ∧ Hid (J (PA.take i) wr)) (fun _ _ wr => s.size - wr.iterPos W.heap.size)
  case atStart => exact ⟨0, 0, World.iter_heap W s 0, Lib.hid (AtM.start s), Lib.hid (HJ.out _ W _ none H0.out (grown_ext ((Ext.refl W).iter s 0) none) (fun _ e => by cases e))⟩
  case round =>
    obtain ⟨i, pos, hit, HA, HJ2⟩ := hrel
    obtain ⟨W1, rfl⟩ : ∃ W1, W1 = wr := ⟨_, rfl⟩
    have hpos := iterPos_of hit
    by_cases hlt : pos < s.size
    · have hnx : ∀ ty, (Instr.next (.pointer (some ⟨W.heap.size, 0, none⟩)) true ty).run Tryz.prog W1 = _ := fun ty => Lib.run_next_any_at W1 W.heap.size s pos ty hit hlt
      have HM := Lib.hid (HA.out.step hlt)
      have hd := dec_le s pos hlt
      have hit1 := Lib.iterAt_heap W1 W.heap.size s pos (pos + (Utf8.decode s pos).2) hit
      have hJ3 := HJ.out _ W1 (W1.iterAt W.heap.size s (pos + (Utf8.decode s pos).2)) (some W.heap.size) HJ2.out (grownBy_iterAt W1 W.heap.size s _) (fun r e => by cases e; exact ⟨Nat.le_refl _, _, hit, rfl⟩)
      generalize Utf8.decode s pos = d at hnx HM hd hit1 hJ3
      generalize W1.iterAt W.heap.size s (pos + d.2) = W2 at hnx hit1 hJ3
      obtain ⟨hi, hm, ha⟩ := HM.out
      have hpre : (PA.take i).length < PA.length := by rw [List.length_take]; omega
      have hil : i < PA.length := by omega
      obtain ⟨x, hx⟩ : ∃ x, PA[i] = x := ⟨_, rfl⟩
      have HXX := Lib.hid (show PA.take (i + 1) = PA.take i ++ [x] by rw [List.take_succ_eq_append_getElem hil, hx])
      have HV := Lib.hid (show val x = (d.1, pos, pos + d.2) by rw [← hx, HG.out i hil hi, hm])
      have HAA := Lib.hid ha
      obtain ⟨fn, tmps, assign, body, hy, hRR⟩ := HY.out _ x W2 hJ3 hpre
      rw [HV.out] at hy
      dsimp only at hy
      clear hx hm ha hpre
      have HW2 := Lib.hid hit1
      clear hit1 hJ3
      gi_wp2_with fail
      refine ⟨hdd _, ?_⟩
      refine hRR.mono ?_
      clear hRR
      rintro e W3 (⟨rfl, hJ4, hb2⟩ | ⟨rfl, hJx2⟩)
      · have HJ3 := Lib.hid (show J (PA.take (i + 1)) W3 by rw [HXX.out]; exact hJ4)
        have HX3 := Lib.hid (u_kept hb2 HW2.out)
        clear hJ4 hb2
        gi_wp2_with fail
        exact ⟨⟨i + 1, pos + d.2, HX3.out, HAA, HJ3⟩, by rw [iterPos_of HX3.out, hpos]; omega⟩
      · have hpx : PA.take i ++ [x] <+: PA := by
          rw [← HXX.out]
          exact List.take_prefix _ _
        have HPX := Lib.hid (And.intro hpx hJx2)
        clear hpx hJx2
        gi_wp2_with fail
        refine bodyPost_ret (results_none rfl _ _ _) rfl ?_
        exact ⟨⟨_, rfl⟩, .inr ⟨_, HPX.out⟩⟩
    · have hnx : ∀ ty, (Instr.next (.pointer (some ⟨W.heap.size, 0, none⟩)) true ty).run Tryz.prog W1 = _ := fun ty => Lib.run_next_end_at W1 W.heap.size s pos ty hit hlt
      have HE := Lib.hid (HA.out.stop hlt)
      gi_wp2_with fail
      have HALL := Lib.hid (show PA.take i = PA from List.take_of_length_le (by have := HE.out; omega))
      exact bodyPost_end (results_none rfl _ _ _) rfl ⟨⟨_, rfl⟩, .inl ⟨_, rfl, by rw [← HALL.out]; exact HJ2.out⟩⟩
theorem c_uEach (s : ByteArray) (w : World) : Calls Tryz.prog 63 #[.string s] w fun e w' => e = .returned (.func (.func 91) #[] #[.pointer (some ⟨w.heap.size, 0, none⟩)]) ∧ w' = w.alloc (.cells #[.string s] 9) := by
  go_enter Tryz.func63, Tryz.ntmps63
  go_wp2_with fail
  exact ret_one rfl rfl rfl ⟨rfl, rfl⟩
/-- Runes in cells. -/
def rW (l : List Nat) : List Value := l.map fun n => Value.int .i32 (n : Nat)
theorem rW_app (a b : List Nat) : rW (a ++ b) = rW a ++ rW b := by simp [rW]
theorem Tryz.infoR : (Tryz.prog.info? 21).map (fun i => (i.zero, i.size, i.bytes)) = some (some (.int .i32 0), 1, 4) := by kernel_rfl
/-- What stands while the runes are gathered. -/
structure UtI (A : Nat) (w : World) (pre : List (Nat × Nat × Nat)) (W : World) : Prop where
  l : ∃ v, Boxed W A 53 v ∧ W.ownsRow A 21 1 v pre.length (rW (pre.map (·.1)))
  x : Below A w W
theorem UtI.own {A : Nat} {w : World} (hA : w.heap.size = A) (B : Nat) (hB : A ≤ B) : OwnFrom B (UtI A w) := by
  rintro pre X Y row h hg hr
  have hne : ∀ b c ty z, X.heap[b]? = some (.cells c ty z) → some b ≠ row := fun b c ty z hb e => by
    obtain ⟨_, o, ho, hc⟩ := hr b e.symm
    rw [hb] at ho; cases ho; cases hc
  obtain ⟨v, h1, h2⟩ := h.l
  refine ⟨⟨v, h1.kept hg (hne _ _ _ _ h1), h2.kept hg ?_⟩, h.x.grown hg (by have := h.x.size; omega) (fun k e => by have := (hr k e).1; omega)⟩
  rcases h2.2 with ⟨rfl, _⟩ | ⟨g, cap, cur, rfl, _, hgb, _⟩
  · exact .inl rfl
  · exact .inr fun e => hne _ _ _ _ hgb (by simpa [Value.ownBlock] using e)
set_option maxRecDepth 100000 in
set_option maxHeartbeats 4000000 in
theorem c_Runes_in (s : ByteArray) (w : World) (hz : s.size ≤ 65536) :
    CallsIn Fence.wide 3 Tryz.prog 37 #[.string s] w fun e w' => ∃ v, e = .returned v ∧ w'.ownsRow w.heap.size 21 1 v (mk s).length (rW ((mk s).map (·.1))) ∧ Ext w w' := by
  have hall : ∀ f, Fence.wide.fn f := fun _ => trivial
  have hro : Fence.wide.round = none := rfl
  refine callsIn_of_wp_marks Tryz.func37 rfl (hall _) ?_ rfl
  simp only [Tryz.ntmps37, List.size_toArray, List.length_cons, List.length_nil, Nat.reduceAdd, Nat.reduceSub, Array.replicate_succ, Array.replicate_zero, List.push_toArray, List.append_toArray, List.nil_append, List.cons_append]
  refine wpIn_wide.2 ?_
  go_wp2_with fail
  refine (c_uEach s _).mono ?_
  rintro e w1 ⟨rfl, rfl⟩
  go_wp2_with fail
  obtain ⟨wE, hwE⟩ : ∃ wE, wE = ((w.alloc (.cells #[.slice none 0 0] 53)).alloc (.cells #[.string s] 9)) := ⟨_, rfl⟩
  have hszE : wE.heap.size = w.heap.size + 2 := by rw [hwE]; simp
  have hxE : Ext w wE := by rw [hwE]; exact ((Ext.refl w).alloc _).alloc _
  have bL : Boxed wE w.heap.size 53 (.slice none 0 0) := by rw [hwE]; exact (Boxed.new _ _ _).alloc _
  have bQ : Boxed wE (w.heap.size + 1) 9 (.string s) := by rw [hwE]; have := Boxed.new (w.alloc (.cells #[.slice none 0 0] 53)) 9 (.string s); rw [World.size_alloc] at this; exact this
  rw [← hwE]
  clear hwE
  refine (wpIn_wide (n := 3)).1 ?_
  refine wpIn_rangeFunc_ownF hro (by decide) (gf := 91) (lb := #[.pointer (some ⟨w.heap.size + 1, 0, none⟩)]) rfl (hall _) (enters_of Tryz.func91 (by kernel_rfl) rfl)
    (u_stops (fun x : Nat × Nat × Nat => x) (mk s) s (by simp) (3 - 1) (w.heap.size + 1) wE wE (Ext.refl _) bQ) walksK_t
    (fun W l o o' _ h _ hw => KeepsWalks.putObj _ h hw) (Below.refl _ _) (fun _ => rfl)
    (UtI w.heap.size w) (fun _ _ _ => False) (UtI.own rfl _ (by omega)) (fun _ _ _ _ _ hs _ _ => hs)
    ⟨⟨_, bL, World.ownsRow_nil _ _ _ _⟩, hxE⟩
    (fun x => { tmps := #[.string s, undef, .slice none 0 0, .pointer (some ⟨w.heap.size, 0, none⟩), undef, .int .i32 (x.1 : Nat), .string s, .func (.func 91) #[] #[.pointer (some ⟨w.heap.size + 1, 0, none⟩)], .int .i64 (x.2.1 : Nat), .int .i32 (x.1 : Nat), undef, undef, undef, undef, undef], defers := [] }) ?assign ?body ?done ?stop
  case assign =>
    intro l x W K hK
    gi_wp2
    exact hK
  case stop =>
    rintro D c pre W _ _ h _
    exact h.elim
  case done =>
    rintro D ys W hD rfl hI hK
    obtain ⟨v, hv, hrow⟩ := hI.l
    have hc := hv.cell
    have HI := Lib.hid hI
    have HROW := Lib.hid hrow
    have HD := Lib.hid hD
    clear hI hrow hD
    go_wp2_with fail
    refine ⟨by simp, .inl ⟨_, _, rfl, run_takeDeferred hK, ?_⟩⟩
    refine ⟨_, results_tmp rfl _ _ _, v, rfl, ?_, HI.out.x.trans (belowK_b (w := w) (Nat.le_refl _) W D _ _ (by have := HD.out; omega) hK rfl rfl)⟩
    exact ownsRow_putObj HROW.out (.deferred none) hK rfl
  case body =>
    rintro l pre x W hI hlt
    obtain ⟨v, hv, hrow⟩ := hI.l
    have HV := Lib.hid hv
    have HROW := Lib.hid hrow
    have HI := Lib.hid hI
    obtain ⟨x1, x2⟩ := x
    obtain ⟨A, hA⟩ : ∃ A, w.heap.size = A := ⟨_, rfl⟩
    have HA := Lib.hid hA
    rw [hA] at HV HROW HI ⊢
    have c2 := HV.out.cell
    have HIX := Lib.hid (show Ext w W from hI.x)
    obtain ⟨pv, cv, rfl⟩ := own_slice hrow
    have HPL := Lib.hid (show pre.length ≤ 65540 by have := mk_len s; omega)
    clear hI hv hrow hA
    gi_wp2_with (gi_at_builtin; refine Hid.out ?_)
    obtain ⟨i0, hi, hz0, hz1, hz2⟩ := info_parts Tryz.infoR
    have HAW := Lib.hid (show A ≤ W.heap.size by rw [← HA.out]; exact HIX.out.sz)
    have hnew := World.news_of_block (World.alloc_heap_new W (.cells #[.int .i32 (x1 : Nat)] 21))
    have HX7 := Lib.hid ((Ext.refl W).alloc (.cells #[.int .i32 (x1 : Nat)] 21))
    refine wpListIn_append_own _ rfl (.tmp 10) (.tmp 12) 53 rfl A 21 i0 (.int .i32 0) 1 4 Tryz.underlying53 hi hz0 hz1 hz2 rfl (by decide) (.slice pv pre.length cv) pre.length _ rfl (ownsRow_ext HROW.out HX7.out) ⟨W.heap.size, 0, none⟩ 1 1 [.int .i32 (x1 : Nat)] rfl rfl hnew (by intro u hu; simp at hu; subst hu; rfl) (by have := HPL.out; unfold maxLen; omega) (by have := HPL.out; omega) (Nat.le_trans HAW.out HX7.out.sz) ?_
    intro v' w8 hown8 hgrow8 _
    obtain ⟨p', c', rfl⟩ := own_slice hown8
    have HX := Lib.hid (And.intro hown8 hgrow8)
    have hv7 := HV.out.ext HX7.out
    have hrow7 := ownsRow_ext HROW.out HX7.out
    have hv8 := hv7.kept hgrow8 (hv7.not_row (by decide) hrow7)
    have HV8 := Lib.hid hv8
    have e1 := hv8.cell
    have e2 := hv8.frozen
    clear hown8 hgrow8 hv7 hrow7 hv8 c2
    gi_wp2_with fail
    have hown7 := ownsRow_ext HROW.out HX7.out
    have hA := HA.out
    obtain ⟨hown8, hgrow8⟩ := HX.out
    have hv8 := HV8.out
    have hown9 : (w8.setCell ⟨A, 0, none⟩ (.slice p' (pre.length + 1) c')).ownsRow A 21 1 (.slice p' (pre.length + 1) c') (pre.length + 1) _ := hown8.kept (grown_cell _ _ _ _) (.inr (hv8.not_row (by decide) hown8).symm)
    have hko : KeepsOthers W (w8.setCell ⟨A, 0, none⟩ (.slice p' (pre.length + 1) c')) := ((keeps_ext HX7.out).trans (KeepsOthers.of_grownBy hgrow8 fun j o ej hj => by
        rcases hown7.2 with ⟨h1, _⟩ | ⟨g, cap, cur, h1, _, hgb, _⟩
        · rw [h1] at ej; simp [Value.ownBlock] at ej
        · rw [h1] at ej
          obtain rfl : g = j := by simpa [Value.ownBlock] using ej
          rw [hgb] at hj; cases hj; rfl)).trans (KeepsOthers.setCell _ _ _)
    refine ⟨hko, hko.walks, ⟨_, hv8.set (.slice p' (pre.length + 1) c'), ?_⟩, ?_⟩
    · rw [List.map_append, rW_app, List.length_append]
      exact hown9
    · have h0 : Below A w w8 := Below.grown (Below.trans HI.out.x (HX7.out.mono (by have := HIX.out.sz; omega))) hgrow8 (by have := HX7.out.sz; have := HIX.out.sz; omega) (fun k e => (hown7.lt _ e).1)
      exact h0.setCell (p := ⟨A, 0, none⟩) (Nat.le_refl A) _
theorem c_Runes (s : ByteArray) (w : World) (hz : s.size ≤ 65536) :
    Calls Tryz.prog 37 #[.string s] w fun e w' => ∃ v, e = .returned v ∧ w'.ownsRow w.heap.size 21 1 v (mk s).length (rW ((mk s).map (·.1))) ∧ Ext w w' := callsIn_wide.1 (c_Runes_in s w hz)
end Go.Proofs.YtafmhmcinhbpfaaGreatDoor
