/-
  The rows of whatever text, cells, wrap.
-/
import Derived.Test.YtlmkbldiicbejaaGreatDoorLwB
import Derived.Test.YtlmkbldiicbejaaGreatDoorLwA
namespace Go.Proofs.YtlmkbldiicbejaaGreatDoor
open Go.RowKit Go.Rp Go.Maps Go.Cl Go.Shelf Go.Gr Go.Ln

set_option maxRecDepth 100000 in
set_option maxHeartbeats 2000000 in
theorem c_RowsE (a tb st W F R H : Int) (s : ByteArray) (w : World) (ho : ¬ CellOk a tb st) :
    Calls Tryz.prog 22 #[.string s, .agg #[.int .i64 a, .int .i64 tb, .int .i64 st], .agg #[.int .i64 W, .int .i64 F, .int .i64 R, .int .i64 H]] w fun e w' => e = .returned (.tuple #[.slice none 0 0, .int .i64 2]) ∧ Ext w w' := by
  have HP := Lib.hid (fun W => c_piecesE a tb st s W ho)
  clear ho
  go_enter Tryz.func22, Tryz.ntmps22
  go_wp2_with fail
  have hx0 : Ext w ((w.alloc (.cells #[.int .i64 a, .int .i64 tb, .int .i64 st] 48)).alloc (.cells #[.int .i64 W, .int .i64 F, .int .i64 R, .int .i64 H] 24)) := ((Ext.refl w).alloc _).alloc _
  generalize (w.alloc (.cells #[.int .i64 a, .int .i64 tb, .int .i64 st] 48)).alloc (.cells #[.int .i64 W, .int .i64 F, .int .i64 R, .int .i64 H] 24) = w0 at hx0 ⊢
  generalize w.heap.size = A
  refine (HP.out w0).mono ?_
  rintro e w1 ⟨rfl, hx1⟩
  have HX1 := Lib.hid (hx0.trans hx1)
  clear hx0 hx1
  go_wp2_with fail
  exact ret_two rfl rfl rfl rfl ⟨rfl, HX1.out⟩
set_option maxRecDepth 100000 in
set_option maxHeartbeats 2000000 in
theorem c_Rows0 (a tb st : Nat) (W F R H : Int) (s : ByteArray) (L : List Pc) (w : World) (ho : CellOk a tb st) (hT : TabsW w) (hz : s.size ≤ 60) (hL : pcS a tb s 0 (chK s) = L)
    (he : (chkK (L.map fun p => bxI p.b) W F R H).1 ≠ 0 ∨ (L.map fun p => bxI p.b) = []) :
    Calls Tryz.prog 22 #[.string s, .agg #[.int .i64 (a : Nat), .int .i64 (tb : Nat), .int .i64 (st : Nat)], .agg #[.int .i64 W, .int .i64 F, .int .i64 R, .int .i64 H]] w fun e w' => e = .returned (.tuple #[.slice none 0 0, .int .i64 (chkK (L.map fun p => bxI p.b) W F R H).1]) ∧ Ext w w' := by
  have HP := Lib.hid (fun W (h : Ext w W) => c_pieces a tb st s W ho (hT.ext h) (by omega))
  have HBX := Lib.hid (fun W (h : Ext w W) => c_Boxes a tb st s W ho (hT.ext h) (by omega))
  rw [hL] at HP HBX
  have HLN := Lib.hid (fun v w (h : BxRow w v (L.map fun p => bxI p.b)) => c_Lines0 v (L.map fun p => bxI p.b) W F R H w h he)
  generalize (chkK (L.map fun p => bxI p.b) W F R H).1 = c at HLN ⊢
  clear hT hL ho he
  go_enter Tryz.func22, Tryz.ntmps22
  go_wp2_with fail
  have hb0 : ((w.alloc (.cells #[.int .i64 (a : Nat), .int .i64 (tb : Nat), .int .i64 (st : Nat)] 48)).alloc (.cells #[.int .i64 W, .int .i64 F, .int .i64 R, .int .i64 H] 24)).heap[w.heap.size + 1]? = some (.cells #[.int .i64 W, .int .i64 F, .int .i64 R, .int .i64 H] 24 (0, 0)) := by
    have := World.alloc_heap_new (w.alloc (.cells #[.int .i64 (a : Nat), .int .i64 (tb : Nat), .int .i64 (st : Nat)] 48)) (.cells #[.int .i64 W, .int .i64 F, .int .i64 R, .int .i64 H] 24)
    rwa [World.size_alloc] at this
  have ho0 : ((w.alloc (.cells #[.int .i64 (a : Nat), .int .i64 (tb : Nat), .int .i64 (st : Nat)] 48)).alloc (.cells #[.int .i64 W, .int .i64 F, .int .i64 R, .int .i64 H] 24)).heap[w.heap.size]? = some (.cells #[.int .i64 (a : Nat), .int .i64 (tb : Nat), .int .i64 (st : Nat)] 48 (0, 0)) :=
    ((Ext.refl _).alloc _).blk (World.alloc_heap_new w (.cells #[.int .i64 (a : Nat), .int .i64 (tb : Nat), .int .i64 (st : Nat)] 48))
  have hx0 : Ext w ((w.alloc (.cells #[.int .i64 (a : Nat), .int .i64 (tb : Nat), .int .i64 (st : Nat)] 48)).alloc (.cells #[.int .i64 W, .int .i64 F, .int .i64 R, .int .i64 H] 24)) := ((Ext.refl w).alloc _).alloc _
  generalize (w.alloc (.cells #[.int .i64 (a : Nat), .int .i64 (tb : Nat), .int .i64 (st : Nat)] 48)).alloc (.cells #[.int .i64 W, .int .i64 F, .int .i64 R, .int .i64 H] 24) = w0 at hb0 ho0 hx0 ⊢
  generalize w.heap.size = A at hb0 ho0 ⊢
  refine (HP.out w0 hx0).mono ?_
  rintro e w1 ⟨v, rfl, hown, hx1⟩
  obtain ⟨pl, cl, rfl⟩ := own_slice hown
  have HX1 := Lib.hid (hx0.trans hx1)
  have HB1 := Lib.hid (hx1.blk hb0)
  have c0 : w1.cell? ⟨A, 0, none⟩ = some (.int .i64 (a : Nat)) := (cell_blk (hx1.blk ho0) 0).trans rfl
  have c1 : w1.cell? ⟨A, 1, none⟩ = some (.int .i64 (tb : Nat)) := (cell_blk (hx1.blk ho0) 1).trans rfl
  have c2 : w1.cell? ⟨A, 2, none⟩ = some (.int .i64 (st : Nat)) := (cell_blk (hx1.blk ho0) 2).trans rfl
  clear hown hx1 hx0 hb0 ho0 HP
  go_wp2_with fail
  refine (HBX.out w1 HX1.out).mono ?_
  rintro e w2 ⟨v, rfl, hown, hx2⟩
  have hbr : BxRow w2 v (L.map fun p => bxI p.b) := by
    have h1 := hown
    rw [← List.length_map (f := fun p : Pc => bxI p.b)] at h1
    exact BxRow.of_own h1
  obtain ⟨pb, cb, rfl⟩ := own_slice hown
  have HBR := Lib.hid hbr
  have HX2 := Lib.hid (HX1.out.trans hx2)
  replace HB1 := Lib.hid (hx2.blk HB1.out)
  have m0 : w2.cell? ⟨A + 1, 0, none⟩ = some (.int .i64 W) := (cell_blk HB1.out 0).trans rfl
  have m1 : w2.cell? ⟨A + 1, 1, none⟩ = some (.int .i64 F) := (cell_blk HB1.out 1).trans rfl
  have m2 : w2.cell? ⟨A + 1, 2, none⟩ = some (.int .i64 R) := (cell_blk HB1.out 2).trans rfl
  have m3 : w2.cell? ⟨A + 1, 3, none⟩ = some (.int .i64 H) := (cell_blk HB1.out 3).trans rfl
  clear hown hx2 hbr HBX c0 c1 c2
  go_wp2_with fail
  refine (HLN.out _ w2 HBR.out).mono ?_
  rintro e w3 ⟨rfl, hx3⟩
  have HX3 := Lib.hid (HX2.out.trans hx3)
  clear hx3 m0 m1 m2 m3 HLN
  by_cases h0 : c = 0
  · subst h0
    go_wp2_with fail
    go_loopw [13, 14, 15, 17, 18, 19, 46] (fun ov fv bv _ _ _ iv V => ov = .slice none 0 0 ∧ iv = .int .i64 0 ∧ Hid (Ext w V)) (fun _ _ _ _ _ _ _ _ => 0)
    case atStart => exact ⟨rfl, rfl, HX3⟩
    case round =>
      obtain ⟨rfl, rfl, HX⟩ := hrel
      go_wp2_with fail
      exact ret_two rfl rfl rfl rfl ⟨rfl, HX.out⟩
  · have hb : (c != 0) = true := bne_iff_ne.2 h0
    clear h0
    go_wp2_with fail
    exact ret_two rfl rfl rfl rfl ⟨rfl, HX3.out⟩
theorem pcS_small (a tb : Nat) (s : ByteArray) : ∀ (x : List (Nat × Bool)) (f : Nat), ∀ p ∈ pcS a tb s f x, p.b.w ≤ 100000 ∧ p.b.b ≤ 100000 ∧ p.b.h ≤ 100000
  | [], _, p, h => by rw [pcS] at h; cases h
  | c :: x, f, p, h => by
    rw [pcS] at h
    rcases List.mem_cons.1 h with rfl | h
    · unfold pcB
      simp only
      refine ⟨by omega, by omega, ?_⟩
      split <;> omega
    · exact pcS_small a tb s x c.1 p h
/-- The rows of a text: none where there is an error; else they are the text. -/
theorem c_RowsA (a tb st W F R H : Int) (s : ByteArray) (w : World) (hT : TabsW w) (hz : s.size ≤ 60) :
    Calls Tryz.prog 22 #[.string s, .agg #[.int .i64 a, .int .i64 tb, .int .i64 st], .agg #[.int .i64 W, .int .i64 F, .int .i64 R, .int .i64 H]] w fun e w' => ∃ (v : Value) (er : Int) (L : List Rw), e = .returned (.tuple #[v, .int .i64 er]) ∧ L.length ≤ 100 ∧ w'.ownsRow w.heap.size 53 5 v L.length (rwW L) ∧ (er ≠ 0 → L = []) ∧ (er = 0 → RowsOk s F R 0 L) ∧ Ext w w' := by
  by_cases ho : CellOk a tb st
  · obtain ⟨a, rfl⟩ : ∃ n : Nat, a = (n : Int) := ⟨a.toNat, by unfold CellOk at ho; omega⟩
    obtain ⟨tb, rfl⟩ : ∃ n : Nat, tb = (n : Int) := ⟨tb.toNat, by unfold CellOk at ho; omega⟩
    obtain ⟨st, rfl⟩ : ∃ n : Nat, st = (n : Int) := ⟨st.toNat, by unfold CellOk at ho; omega⟩
    obtain ⟨L, hL⟩ : ∃ L, pcS a tb s 0 (chK s) = L := ⟨_, rfl⟩
    have hlen : L.length ≤ 64 := by rw [← hL, pcS_len]; have := chK_len s; omega
    have hrise : PRise L s.size := by rw [← hL]; exact pc_rise a tb s
    have hsml : SmB (L.map fun p => p.b) := by
      refine ⟨by rw [List.length_map]; omega, fun x hx => ?_⟩
      obtain ⟨p, hp, rfl⟩ := List.mem_map.1 hx
      rw [← hL] at hp
      exact pcS_small a tb s _ _ p hp
    by_cases he : (chkK (L.map fun p => bxI p.b) W F R H).1 ≠ 0 ∨ (L.map fun p => bxI p.b) = []
    · refine (c_Rows0 a tb st W F R H s L w ho hT hz hL he).mono ?_
      rintro e w' ⟨rfl, hx⟩
      refine ⟨_, _, [], rfl, Nat.zero_le _, World.ownsRow_nil _ _ _ _, fun _ => rfl, fun h => ?_, hx⟩
      have h2 := he.resolve_left (fun q => q h)
      have h3 : L = [] := List.map_eq_nil_iff.1 h2
      have := hrise.2
      rw [h3] at this
      exact this
    · have h1 : (chkK (L.map fun p => bxI p.b) W F R H).1 = 0 := Decidable.byContradiction fun q => he (.inl q)
      have h2 : 0 < L.length := List.length_pos_iff.2 (fun q => he (.inr (by rw [q]; rfl)))
      obtain ⟨hok, _, _⟩ := chk_ok h1
      have hbrk : Brk L.length 0 (Wp.linesK ⟨W, F, R⟩ (H == 1) (L.map fun p => p.b)) := by
        have := brk_lines ⟨W, F, R⟩ (H == 1) (L.map fun p => p.b)
        rwa [List.length_map] at this
      have hel : (Wp.linesK ⟨W, F, R⟩ (H == 1) (L.map fun p => p.b)).length ≤ 64 := by
        have h2 : ∀ (ev : Bool) (l : List Wp.Bx), (Wp.linesK ⟨W, F, R⟩ ev l).length ≤ l.length := fun ev l => by
          unfold Wp.linesK
          split
          · have := even_len ⟨W, F, R⟩ l l.length 0 (by omega); omega
          · have := greedy_len ⟨W, F, R⟩ l l.length 0 (by omega); omega
        exact Nat.le_trans (h2 _ _) (by rw [List.length_map]; exact hlen)
      obtain ⟨E, hE⟩ : ∃ E, Wp.linesK ⟨W, F, R⟩ (H == 1) (L.map fun p => p.b) = E := ⟨_, rfl⟩
      rw [hE] at hbrk hel
      refine (c_Rows a tb st W F R H s L E w ho hT hz hL h2 hok hsml hE (fun n hn => hbrk.lt n hn) (fun i hi => rows_fr hrise hbrk i hi) (fun p hp => ?_)).mono ?_
      · obtain ⟨i, hi, rfl⟩ := List.getElem_of_mem hp
        have h3 := hrise.end_le (i := i + 1) (by omega)
        rw [pE_succ] at h3
        have h4 : gP L i = L[i] := by unfold gP; simp [List.getD_eq_getElem?_getD, hi]
        rwa [h4] at h3
      · rintro e w' ⟨v, rfl, hown, hx⟩
        have hok2 := rows_ok s L F R hrise E 0 true hbrk (Nat.zero_le _)
        rw [show pE L 0 = 0 from rfl] at hok2
        have hln : ∀ (E : List Nat) (fr : Nat) (fi : Bool), (rowS s L F R fr fi E).length = E.length := by
          intro E
          induction E with
          | nil => intro _ _; rfl
          | cons k E ih => intro fr fi; rw [rowS, List.length_cons, ih, List.length_cons]
        refine ⟨v, 0, rowS s L F R 0 true E, rfl, by rw [hln]; omega, by rw [hln]; exact hown, fun h => absurd rfl h, fun _ => hok2, hx⟩
  · refine (c_RowsE a tb st W F R H s w ho).mono ?_
    rintro e w' ⟨rfl, hx⟩
    exact ⟨_, _, [], rfl, Nat.zero_le _, World.ownsRow_nil _ _ _ _, fun _ => rfl, fun h => absurd h (by decide), hx⟩
end Go.Proofs.YtlmkbldiicbejaaGreatDoor
