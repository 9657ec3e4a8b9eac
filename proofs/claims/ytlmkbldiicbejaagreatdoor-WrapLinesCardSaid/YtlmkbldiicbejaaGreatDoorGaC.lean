/-
  The bounds of a text's letters.
-/
import Derived.Test.YtlmkbldiicbejaaGreatDoorGaB
import Derived.ScopeJumps
namespace Go.Proofs.YtlmkbldiicbejaaGreatDoor
open Go.RowKit Go.Rp Go.Maps Go.Cl Go.Shelf Go.Gr

def G0 : G := ⟨0, false, false, 0⟩
theorem G0_next (y : Nat) : G0.next y = G.first y := by
  unfold G0 G.next G.first
  simp
/-- What is kept behind i runes. -/
noncomputable def stG (s : ByteArray) (i : Nat) : G := G0.run clsG ((mk s).take i)
/-- The bounds met within i runes. -/
noncomputable def blG (s : ByteArray) (i : Nat) : List Nat := 0 :: bnd clsG (stG s 1) (((mk s).drop 1).take (i - 1))
theorem stG_succ (s : ByteArray) (i : Nat) (h : i < (mk s).length) : stG s (i + 1) = (stG s i).next (clsG (mk s)[i].1) := by
  unfold stG G.run
  rw [List.take_succ_eq_append_getElem h, List.foldl_append]
  rfl
theorem stG_one (s : ByteArray) (i : Nat) (h1 : 1 ≤ i) : stG s i = (stG s 1).run clsG (((mk s).drop 1).take (i - 1)) := by
  unfold stG G.run
  rw [← List.foldl_append]
  congr 1
  obtain ⟨k, rfl⟩ : ∃ k, i = k + 1 := ⟨i - 1, by omega⟩
  cases mk s with
  | nil => simp
  | cons a l => simp
theorem blG_succ (s : ByteArray) (i : Nat) (h : i < (mk s).length) (h1 : 1 ≤ i) : blG s (i + 1) = blG s i ++ if (stG s i).same (clsG (mk s)[i].1) then [] else [(mk s)[i].2.1] := by
  obtain ⟨k, rfl⟩ : ∃ k, i = k + 1 := ⟨i - 1, by omega⟩
  have hd : k < ((mk s).drop 1).length := by simp; omega
  have he : ((mk s).drop 1)[k] = (mk s)[k + 1] := by simp
  unfold blG
  rw [show k + 1 + 1 - 1 = k + 1 from rfl, show k + 1 - 1 = k from rfl, List.take_succ_eq_append_getElem hd, bnd_append, he, List.cons_append]
  have := stG_one s (k + 1) (by omega)
  rw [show k + 1 - 1 = k from rfl] at this
  rw [← this]
  simp [bnd]
theorem blG_one (s : ByteArray) : blG s 1 = [0] := by simp [blG, bnd]
theorem blG_zero (s : ByteArray) : blG s 0 = [0] := by simp [blG, bnd]
theorem stG_fl (s : ByteArray) : ∀ i, (stG s i).fl ≤ i := by
  intro i
  induction i with
  | zero => simp [stG, G.run, G0]
  | succ i ih =>
    by_cases h : i < (mk s).length
    · rw [stG_succ s i h]
      unfold G.next
      dsimp only
      split <;> omega
    · have : stG s (i + 1) = stG s i := by
        unfold stG
        rw [List.take_of_length_le (by omega), List.take_of_length_le (by omega)]
      rw [this]; omega
theorem blG_len (s : ByteArray) (i : Nat) : (blG s i).length ≤ s.size + 1 := by
  have h : ∀ (ms : List (Nat × Nat × Nat)) (st : G), (bnd clsG st ms).length ≤ ms.length := by
    intro ms
    induction ms with
    | nil => intro st; simp [bnd]
    | cons m ms ih => intro st; rw [bnd, List.length_append, List.length_cons]; have := ih (st.next (clsG m.1)); split <;> simp <;> omega
  have h1 := h (((mk s).drop 1).take (i - 1)) (stG s 1)
  have h2 := mk_len s
  unfold blG
  simp only [List.length_cons, List.length_take, List.length_drop] at h1 ⊢
  omega
theorem bounds_blG (s : ByteArray) (h : s.size ≠ 0) : bounds clsG s.data.toList = blG s (mk s).length ++ [s.size] := by
  have hne : s.data.toList ≠ [] := by intro e; have := len_eq s; rw [e] at this; simp at this; omega
  unfold bounds
  rw [if_neg hne, len_eq]
  congr 1
  show bndAll clsG (mk s) = _
  obtain ⟨h0, hm, _⟩ := (AtM.start s).step (by omega)
  have e1 : stG s 1 = G.first (clsG (mk s)[0].1) := by
    rw [stG_succ s 0 h0, ← G0_next]
    rfl
  obtain ⟨m, ms, hms⟩ : ∃ m ms, mk s = m :: ms := by
    cases hk : mk s with
    | nil => rw [hk] at h0; simp at h0
    | cons a l => exact ⟨a, l, rfl⟩
  unfold blG
  rw [e1]
  simp only [hms] at hm ⊢
  simp only [List.getElem_cons_zero] at hm ⊢
  have h2 : m.2.1 = 0 := by rw [hm]
  rw [bndAll, h2]
  simp
theorem ownsRow_iterAtN {w : World} {base : Nat} {e : TypeId} {size : Nat} {v : Value} {n : Nat} {xs : List Value} (h : w.ownsRow base e size v n xs) {k p0 : Nat} {s0 : ByteArray} (hk : w.heap[k]? = some (.stringIter s0 p0)) (s : ByteArray) (p : Nat) : (w.iterAt k s p).ownsRow base e size v n xs := by
  obtain ⟨h1, h2⟩ := h
  refine ⟨h1, ?_⟩
  rcases h2 with h2 | ⟨g, cap, cur, a, b, c, d⟩
  · exact .inl h2
  · refine .inr ⟨g, cap, cur, a, b, ?_, d⟩
    rw [Lib.iterAt_other _ _ _ _ _ (by intro e; subst e; rw [hk] at c; cases c)]
    exact c
theorem noGoto_normal {Q : Exit → Act → World → Prop} {a : Act} {w : World} {id : Nat} (h : Q .normal a w) : Exit.noGoto (Exit.inBlock id Q) .normal a w := h
theorem jump_normal {Q : Exit → Act → World → Prop} {l id : Nat} {K : Act → World → Prop} {a : Act} {w : World} (h : Q .normal a w) : Exit.jump l K (Exit.inBlock id Q) .normal a w := h
theorem own_iter {w : World} {base : Nat} {e : TypeId} {size : Nat} {v : Value} {n : Nat} {xs : List Value} (h : w.ownsRow base e size v n xs) {k p0 : Nat} {s0 : ByteArray} (hk : w.heap[k]? = some (.stringIter s0 p0)) : some k ≠ v.ownBlock := by
  rcases h.2 with ⟨rfl, _⟩ | ⟨g, cap, cur, rfl, _, hgb, _⟩
  · intro e; cases e
  · intro e
    obtain rfl : k = g := Option.some.inj e
    rw [hk] at hgb
    cases hgb
/-- A scope out of which one jump goes forward to a label. -/
theorem wp_scope_on {P : Program} {Q : Exit → Act → World → Prop} {a : Act} {w : World} {c rest : Code} (l : Nat) (hf : findLabel c l = some rest)
    (h : c.wp P (Exit.jump l (fun a w => rest.wp P (Exit.noGoto Q) a w) Q) a w) : (Code.scope c).wp P Q a w :=
  wp_scope_jumps l (fun a w => rest.wp P (Exit.noGoto Q) a w) (fun _ _ => 0) hf h fun a w hJ => wp_mono hJ fun e a' w' hq => by
    cases e with
    | goto l' => exact absurd hq id
    | _ => exact hq
theorem leafR : (∀ b : Bool, (false || b) = b) ∧ (∀ b : Bool, (true || b) = true) ∧ (∀ b : Bool, (false && b) = false) ∧ (∀ b : Bool, (true && b) = b) ∧ (∀ b : Bool, (b && false) = false) ∧ (∀ b : Bool, (b && true) = b) ∧ (∀ b : Bool, (b || false) = b) ∧ (∀ b : Bool, (b || true) = true) ∧ ((false = true) = False) ∧ (∀ l : List Nat, l ++ [] = l) ∧ (∀ (d : Decidable True) (a b : List Nat), @ite _ True d a b = a) ∧ (∀ (d : Decidable False) (a b : List Nat), @ite _ False d a b = b) :=
  ⟨by simp, by simp, by simp, by simp, by simp, by simp, by simp, by simp, by simp, by simp, by simp, by simp⟩
set_option maxRecDepth 100000 in
set_option maxHeartbeats 4000000 in
theorem c_Bounds (s : ByteArray) (w : World) (hT : TabsW w) (hz : s.size ≤ 65536) :
    Calls Tryz.prog 115 #[.string s] w fun e w' => ∃ v, e = .returned v ∧ w'.ownsRow w.heap.size 3 1 v (bounds clsG s.data.toList).length (nW (bounds clsG s.data.toList)) ∧ Ext w w' := by
  have HB := Lib.hid (c_gdb w hT)
  by_cases h0 : s.size = 0
  · have he : s = ⟨#[]⟩ := by
      have := len_eq s
      rw [h0] at this
      have h2 := List.length_eq_zero_iff.1 this
      cases s with
      | mk d => congr 1; exact Array.toList_eq_nil_iff.1 h2
    subst he
    have hne : (⟨#[]⟩ : ByteArray).toList.isEmpty = true := by kernel_rfl
    clear h0
    go_enter Tryz.func115, Tryz.ntmps115
    go_wp2_with fail
    exact ret_one rfl rfl rfl ⟨_, rfl, World.ownsRow_nil _ _ _ _, Ext.refl _⟩
  · have HS := Lib.hid (bounds_blG s h0)
    have hne := emp_false (s := s) (by omega)
    go_enter Tryz.func115, Tryz.ntmps115
    go_wp2_with fail
    refine HB.out.mono ?_
    rintro e w1 ⟨db, rfl, hd, hx1⟩
    have HO := Lib.hid (c_Of db _ rngG s w1 hd rngG_rise (by have := rngG_len; omega) hz)
    have HX1 := Lib.hid hx1
    clear hd hx1 HB
    go_wp2_with fail
    refine HO.out.mono ?_
    rintro e w2 ⟨v, rfl, h1, h2⟩
    have HC := Lib.hid (And.intro h1 (HX1.out.trans h2))
    clear h1 h2
    obtain ⟨pc, cc, rfl⟩ := own_slice HC.out.1
    go_wp2_with fail
    have hb3 := World.alloc_heap_new w2 (.cells #[.int .i64 0] 3)
    have hx3 := (Ext.refl w2).alloc (.cells #[.int .i64 0] 3)
    have hs3 := World.size_alloc w2 (.cells #[.int .i64 0] 3)
    generalize w2.alloc (.cells #[.int .i64 0] 3) = w3 at hb3 hx3 hs3 ⊢
    rw [← hs3]
    have hw3 : w3.heap.size = w2.heap.size + 1 := hs3
    have hown0 : w3.ownsRow w2.heap.size 3 1 (.slice (some ⟨w2.heap.size, 0, none⟩) 1 1) 1 (nW [0]) := by
      refine ⟨rfl, .inr ⟨w2.heap.size, 1, _, rfl, Nat.le_refl _, hb3, Nat.le_refl _, by unfold maxLen; omega, rfl, rfl⟩⟩
    have HW3 := Lib.hid (show w2.heap.size ≤ w3.heap.size by omega)
    clear hs3 hw3 hb3
    go_loopw [4, 5, 6, 7, 8, 9, 10] (fun lv iv pv jv fv _ _ W => ∃ i pos : Nat, iv = .int .i64 ((i : Nat) - 1) ∧ pv = .bool (stG s i).pic ∧ jv = .bool (stG s i).join ∧ fv = .int .i64 ((stG s i).fl : Nat) ∧ W.heap[w3.heap.size]? = some (.stringIter s pos) ∧ Hid (AtM s i pos) ∧ W.ownsRow w2.heap.size 3 1 lv (blG s i).length (nW (blG s i)) ∧ Ext w2 W) (fun _ _ _ _ _ _ _ W => s.size - W.iterPos w3.heap.size)
    case atStart =>
      refine ⟨0, 0, rfl, rfl, rfl, rfl, World.iter_heap w3 s 0, Lib.hid (AtM.start s), ?_, hx3.iter s 0⟩
      rw [blG_zero]
      exact ownsRow_ext hown0 ((Ext.refl w3).iter s 0)
    case round =>
      obtain ⟨i, pos, rfl, rfl, rfl, rfl, hit, HA, hown, hx⟩ := hrel
      obtain ⟨W, rfl⟩ : ∃ W, W = wr := ⟨_, rfl⟩
      have hpos := iterPos_of hit
      by_cases hlt : pos < s.size
      · have hnx : ∀ ty, (Instr.next (.pointer (some ⟨w3.heap.size, 0, none⟩)) true ty).run Tryz.prog W = _ := fun ty => Lib.run_next_any_at W w3.heap.size s pos ty hit hlt
        have HM := Lib.hid (HA.out.step hlt)
        obtain ⟨pl, cl, rfl⟩ := own_slice hown
        have hd := dec_le s pos hlt
        generalize Utf8.decode s pos = d at hnx HM hd
        have hx1 : Ext w2 _ := Lib.below_iterAt hx HW3.out s (pos + d.2)
        have hit1 := Lib.iterAt_heap W w3.heap.size s pos (pos + d.2) hit
        have hown1 : (W.iterAt w3.heap.size s (pos + d.2)).ownsRow w2.heap.size 3 1 (.slice pl (blG s i).length cl) (blG s i).length (nW (blG s i)) := by
          exact ownsRow_iterAtN hown hit s (pos + d.2)
        generalize W.iterAt w3.heap.size s (pos + d.2) = W1 at hnx hx1 hit1 hown1
        have HS1 := Lib.hid (And.intro hx1 (And.intro hit1 hown1))
        obtain ⟨hi, hm, ha⟩ := HM.out
        obtain ⟨gc, rfl, hgc0, hgc1, hcc⟩ := own_at HC.out.1 (by omega)
        have hcell : ∀ j (h : j < (mk s).length), W1.cell? ⟨gc, j, none⟩ = some (.int .i64 (clsG (mk s)[j].1 : Nat)) := fun j h => by
          refine hx1.cell ((hcc j (by omega)).trans ?_)
          simp [nW, h, clsG]
        have HCE := Lib.hid hcell
        have hyi := hcell i hi
        have HNX := Lib.hid (stG_succ s i hi)
        obtain ⟨y, hy⟩ : ∃ y, clsG (mk s)[i].1 = y := ⟨_, rfl⟩
        rw [hy] at hyi HNX
        have hiI : ((i : Nat) : Int) < ((mk s).length : Nat) := by omega
        have hmI : (((mk s).length : Nat) : Int) ≤ 65536 := by have := mk_len s; omega
        by_cases hi0 : i = 0
        · subst hi0
          have HNV := Lib.hid (show (stG s 1).pic = (y == 12) ∧ (stG s 1).join = false ∧ (stG s 1).fl = if y = 13 then 1 else 0 by
            rw [HNX.out, show stG s 0 = G0 from rfl, G0_next]
            exact ⟨rfl, rfl, rfl⟩)
          rw [show (stG s 0).pic = false from rfl, show (stG s 0).join = false from rfl, show (((stG s 0).fl : Nat) : Int) = 0 from rfl, show (((0 : Nat) : Int) - 1) = -1 from rfl]
          clear hown1 hx1 hit1 hcell hm ha HNX
          by_cases hy2 : y ∈ [4, 5, 12, 13]
          · have HYS := Lib.hid hy
            simp only [List.mem_cons, List.not_mem_nil, or_false] at hy2
            clear hy
            rcases hy2 with rfl | rfl | rfl | rfl
            all_goals
              go_wp2_with fail
              refine wp_scope_on 0 rfl ?_
              go_wp2_with fail
              refine wp_goto (@And.intro (0 = 0) _ rfl ?_)
              go_wp2_with fail
              refine noGoto_normal ?_
              go_wp2_with fail
              obtain ⟨hi, hm, ha⟩ := HM.out
              refine ⟨⟨_, pos + d.2, show Value.int .i64 _ = Value.int .i64 ((1 : Nat) - 1) by simp, by rw [HNV.out.1]; (try rfl), by rw [HNV.out.2.1]; (try rfl), by rw [HNV.out.2.2]; (try rfl), HS1.out.2.1, Lib.hid ha, (by rw [blG_one, ← blG_zero s]; exact HS1.out.2.2), HS1.out.1⟩, by rw [iterPos_of HS1.out.2.1, hpos]; omega⟩
          · have y4 : ((y : Int) == 4) = false := notIn hy2 4 (by decide)
            have y5 : ((y : Int) == 5) = false := notIn hy2 5 (by decide)
            have y12 : ((y : Int) == 12) = false := notIn hy2 12 (by decide)
            have y13 : ((y : Int) == 13) = false := notIn hy2 13 (by decide)
            have HYN := Lib.hid hy2
            clear hy2
            go_wp2_with fail
            refine wp_scope_on 0 rfl ?_
            go_wp2_with fail
            refine wp_goto (@And.intro (0 = 0) _ rfl ?_)
            go_wp2_with fail
            refine noGoto_normal ?_
            go_wp2_with fail
            obtain ⟨hi, hm, ha⟩ := HM.out
            refine ⟨⟨_, pos + d.2, show Value.int .i64 _ = Value.int .i64 ((1 : Nat) - 1) by simp, by rw [HNV.out.1]; try (have h := HYN.out; simp only [List.mem_cons, List.not_mem_nil, or_false, not_or] at h; simp [h]), by rw [HNV.out.2.1]; try (have h := HYN.out; simp only [List.mem_cons, List.not_mem_nil, or_false, not_or] at h; simp [h]), by rw [HNV.out.2.2]; try (have h := HYN.out; simp only [List.mem_cons, List.not_mem_nil, or_false, not_or] at h; simp [h]), HS1.out.2.1, Lib.hid ha, (by rw [blG_one, ← blG_zero s]; exact HS1.out.2.2), HS1.out.1⟩, by rw [iterPos_of HS1.out.2.1, hpos]; omega⟩
        · obtain ⟨k, rfl⟩ : ∃ k, i = k + 1 := ⟨i - 1, by omega⟩
          obtain ⟨x, hxx⟩ : ∃ x, clsG (mk s)[k].1 = x := ⟨_, rfl⟩
          have HC0 := Lib.hid (show (stG s (k + 1)).c = x by rw [stG_succ s k (by omega), hxx]; rfl)
          have hxi := hcell k (by omega)
          rw [hxx] at hxi
          have HBL := Lib.hid (blG_succ s (k + 1) hi (by omega))
          rw [hy] at HBL
          obtain ⟨p, hp⟩ : ∃ p, (stG s (k + 1)).pic = p := ⟨_, rfl⟩
          obtain ⟨j, hj⟩ : ∃ j, (stG s (k + 1)).join = j := ⟨_, rfl⟩
          obtain ⟨f, hf⟩ : ∃ f, (stG s (k + 1)).fl = f := ⟨_, rfl⟩
          have hfl := stG_fl s (k + 1)
          rw [hf] at hfl
          have hfI : ((f : Nat) : Int) ≤ 65536 := by omega
          have HNV := Lib.hid (show (stG s (k + 1 + 1)).pic = (y == 12 || (p && y == 4)) ∧ (stG s (k + 1 + 1)).join = (p && y == 5) ∧ (stG s (k + 1 + 1)).fl = if y = 13 then f + 1 else 0 by
            rw [HNX.out, ← hp, ← hf]
            exact ⟨rfl, rfl, rfl⟩)
          obtain ⟨b, hb⟩ : ∃ b, ((f : Int) % 2 == 1) = b := ⟨_, rfl⟩
          have hb2 : (f % 2 == 1) = b := by
            rw [← hb, Bool.eq_iff_iff]
            simp
            omega
          have HSM := Lib.hid (show (stG s (k + 1)).same y = (joinsC x y || (j && y == 12) || (y == 13 && b)) by
            rw [← HC0.out, ← hj, ← hb2, ← hf]
            rfl)
          rw [hp, hj, hf, show (((k + 1 : Nat) : Int) - 1) = (k : Nat) by omega]
          have HJ := Lib.hid (c_gjoins x y W1)
          obtain ⟨jn, hjn⟩ : ∃ jn, joinsC x y = jn := ⟨_, rfl⟩
          rw [hjn] at HJ HSM
          have hkI : ((k : Nat) : Int) + 1 < ((mk s).length : Nat) := by omega
          clear hown1 hx1 hit1 hcell hm ha HNX hp hj hf hfl hjn hxx hy hb2
          by_cases hy2 : y ∈ [4, 5, 12, 13]
          · simp only [List.mem_cons, List.not_mem_nil, or_false] at hy2
            rcases hy2 with rfl | rfl | rfl | hy3
            · rcases jn with _ | _ <;> rcases j with _ | _ <;> rcases p with _ | _
              all_goals
                go_wp2_with fail
                refine wp_scope_on 0 rfl ?_
                go_wp2_with fail
                refine HJ.out.mono ?_
                rintro e w5 ⟨rfl, rfl⟩
                go_wp2_with (at_builtin; refine Hid.out ?_)
                first
                  | refine wp_goto (@And.intro (0 = 0) _ rfl ?_)
                    go_wp2_with fail
                    refine noGoto_normal ?_
                    go_wp2_with fail
                    obtain ⟨hi, hm, ha⟩ := HM.out
                    refine ⟨⟨_, pos + d.2, show Value.int .i64 _ = Value.int .i64 (((k + 1 + 1 : Nat) : Int) - 1) by simp, by rw [HNV.out.1]; (try rfl), by rw [HNV.out.2.1]; (try rfl), by rw [HNV.out.2.2]; (try rfl), HS1.out.2.1, Lib.hid ha, (by rw [HBL.out, HSM.out]; (simp only [Nat.reduceBEq, leafR]); exact HS1.out.2.2), HS1.out.1⟩, by rw [iterPos_of HS1.out.2.1, hpos]; omega⟩
                  | refine wpList_appI (n := (blG s (k + 1)).length) rfl (.tmp 53) (.tmp 55) rfl rfl HS1.out.2.2 (by have := HS1.out.1.sz; exact this) _ _ rfl rfl (by have := blG_len s (k + 1); omega) ?_
                    intro v' w6 h1 h2
                    obtain ⟨p', c', rfl⟩ := own_slice h1
                    have HS6 := Lib.hid (And.intro h1 h2)
                    clear h1 h2
                    go_wp2_with fail
                    refine wp_label ?_
                    go_wp2_with fail
                    refine jump_normal ?_
                    have HSY := Lib.hid (And.intro (Below.grown HS1.out.1 HS6.out.2 HS1.out.1.sz (fun k e => (HS1.out.2.2.lt _ e).1) : Ext w2 w6) (And.intro (HS6.out.2.block _ (blk_lt HS1.out.2.1) (own_iter HS1.out.2.2 HS1.out.2.1) |>.trans HS1.out.2.1) HS6.out.1))
                    go_wp2_with fail
                    obtain ⟨hi, hm, ha⟩ := HM.out
                    refine ⟨⟨_, pos + d.2, show Value.int .i64 _ = Value.int .i64 (((k + 1 + 1 : Nat) : Int) - 1) by simp, by rw [HNV.out.1]; (try rfl), by rw [HNV.out.2.1]; (try rfl), by rw [HNV.out.2.2]; (try rfl), HSY.out.2.1, Lib.hid ha, (by rw [HBL.out, HSM.out]; (simp only [Nat.reduceBEq, leafR]); have hm := HM.out.choose_spec.1; rw [hm, nW_app, List.length_append]; exact HSY.out.2.2), HSY.out.1⟩, by rw [iterPos_of HSY.out.2.1, hpos]; omega⟩
            · rcases jn with _ | _ <;> rcases j with _ | _ <;> rcases p with _ | _
              all_goals
                go_wp2_with fail
                refine wp_scope_on 0 rfl ?_
                go_wp2_with fail
                refine HJ.out.mono ?_
                rintro e w5 ⟨rfl, rfl⟩
                go_wp2_with (at_builtin; refine Hid.out ?_)
                first
                  | refine wp_goto (@And.intro (0 = 0) _ rfl ?_)
                    go_wp2_with fail
                    refine noGoto_normal ?_
                    go_wp2_with fail
                    obtain ⟨hi, hm, ha⟩ := HM.out
                    refine ⟨⟨_, pos + d.2, show Value.int .i64 _ = Value.int .i64 (((k + 1 + 1 : Nat) : Int) - 1) by simp, by rw [HNV.out.1]; (try rfl), by rw [HNV.out.2.1]; (try rfl), by rw [HNV.out.2.2]; (try rfl), HS1.out.2.1, Lib.hid ha, (by rw [HBL.out, HSM.out]; (simp only [Nat.reduceBEq, leafR]); exact HS1.out.2.2), HS1.out.1⟩, by rw [iterPos_of HS1.out.2.1, hpos]; omega⟩
                  | refine wpList_appI (n := (blG s (k + 1)).length) rfl (.tmp 53) (.tmp 55) rfl rfl HS1.out.2.2 (by have := HS1.out.1.sz; exact this) _ _ rfl rfl (by have := blG_len s (k + 1); omega) ?_
                    intro v' w6 h1 h2
                    obtain ⟨p', c', rfl⟩ := own_slice h1
                    have HS6 := Lib.hid (And.intro h1 h2)
                    clear h1 h2
                    go_wp2_with fail
                    refine wp_label ?_
                    go_wp2_with fail
                    refine jump_normal ?_
                    have HSY := Lib.hid (And.intro (Below.grown HS1.out.1 HS6.out.2 HS1.out.1.sz (fun k e => (HS1.out.2.2.lt _ e).1) : Ext w2 w6) (And.intro (HS6.out.2.block _ (blk_lt HS1.out.2.1) (own_iter HS1.out.2.2 HS1.out.2.1) |>.trans HS1.out.2.1) HS6.out.1))
                    go_wp2_with fail
                    obtain ⟨hi, hm, ha⟩ := HM.out
                    refine ⟨⟨_, pos + d.2, show Value.int .i64 _ = Value.int .i64 (((k + 1 + 1 : Nat) : Int) - 1) by simp, by rw [HNV.out.1]; (try rfl), by rw [HNV.out.2.1]; (try rfl), by rw [HNV.out.2.2]; (try rfl), HSY.out.2.1, Lib.hid ha, (by rw [HBL.out, HSM.out]; (simp only [Nat.reduceBEq, leafR]); have hm := HM.out.choose_spec.1; rw [hm, nW_app, List.length_append]; exact HSY.out.2.2), HSY.out.1⟩, by rw [iterPos_of HSY.out.2.1, hpos]; omega⟩
            · rcases jn with _ | _ <;> rcases j with _ | _ <;> rcases p with _ | _
              all_goals
                go_wp2_with fail
                refine wp_scope_on 0 rfl ?_
                go_wp2_with fail
                refine HJ.out.mono ?_
                rintro e w5 ⟨rfl, rfl⟩
                go_wp2_with (at_builtin; refine Hid.out ?_)
                first
                  | refine wp_goto (@And.intro (0 = 0) _ rfl ?_)
                    go_wp2_with fail
                    refine noGoto_normal ?_
                    go_wp2_with fail
                    obtain ⟨hi, hm, ha⟩ := HM.out
                    refine ⟨⟨_, pos + d.2, show Value.int .i64 _ = Value.int .i64 (((k + 1 + 1 : Nat) : Int) - 1) by simp, by rw [HNV.out.1]; (try rfl), by rw [HNV.out.2.1]; (try rfl), by rw [HNV.out.2.2]; (try rfl), HS1.out.2.1, Lib.hid ha, (by rw [HBL.out, HSM.out]; (simp only [Nat.reduceBEq, leafR]); exact HS1.out.2.2), HS1.out.1⟩, by rw [iterPos_of HS1.out.2.1, hpos]; omega⟩
                  | refine wpList_appI (n := (blG s (k + 1)).length) rfl (.tmp 53) (.tmp 55) rfl rfl HS1.out.2.2 (by have := HS1.out.1.sz; exact this) _ _ rfl rfl (by have := blG_len s (k + 1); omega) ?_
                    intro v' w6 h1 h2
                    obtain ⟨p', c', rfl⟩ := own_slice h1
                    have HS6 := Lib.hid (And.intro h1 h2)
                    clear h1 h2
                    go_wp2_with fail
                    refine wp_label ?_
                    go_wp2_with fail
                    refine jump_normal ?_
                    have HSY := Lib.hid (And.intro (Below.grown HS1.out.1 HS6.out.2 HS1.out.1.sz (fun k e => (HS1.out.2.2.lt _ e).1) : Ext w2 w6) (And.intro (HS6.out.2.block _ (blk_lt HS1.out.2.1) (own_iter HS1.out.2.2 HS1.out.2.1) |>.trans HS1.out.2.1) HS6.out.1))
                    go_wp2_with fail
                    obtain ⟨hi, hm, ha⟩ := HM.out
                    refine ⟨⟨_, pos + d.2, show Value.int .i64 _ = Value.int .i64 (((k + 1 + 1 : Nat) : Int) - 1) by simp, by rw [HNV.out.1]; (try rfl), by rw [HNV.out.2.1]; (try rfl), by rw [HNV.out.2.2]; (try rfl), HSY.out.2.1, Lib.hid ha, (by rw [HBL.out, HSM.out]; (simp only [Nat.reduceBEq, leafR]); have hm := HM.out.choose_spec.1; rw [hm, nW_app, List.length_append]; exact HSY.out.2.2), HSY.out.1⟩, by rw [iterPos_of HSY.out.2.1, hpos]; omega⟩
            · subst hy3
              rcases jn with _ | _ <;> rcases j with _ | _ <;> rcases p with _ | _ <;> rcases b with _ | _
              all_goals
                go_wp2_with fail
                refine wp_scope_on 0 rfl ?_
                go_wp2_with fail
                refine HJ.out.mono ?_
                rintro e w5 ⟨rfl, rfl⟩
                go_wp2_with (at_builtin; refine Hid.out ?_)
                first
                  | refine wp_goto (@And.intro (0 = 0) _ rfl ?_)
                    go_wp2_with fail
                    refine noGoto_normal ?_
                    go_wp2_with fail
                    obtain ⟨hi, hm, ha⟩ := HM.out
                    refine ⟨⟨_, pos + d.2, show Value.int .i64 _ = Value.int .i64 (((k + 1 + 1 : Nat) : Int) - 1) by simp, by rw [HNV.out.1]; (try rfl), by rw [HNV.out.2.1]; (try rfl), by rw [HNV.out.2.2]; (try rfl), HS1.out.2.1, Lib.hid ha, (by rw [HBL.out, HSM.out]; (simp only [Nat.reduceBEq, leafR]); exact HS1.out.2.2), HS1.out.1⟩, by rw [iterPos_of HS1.out.2.1, hpos]; omega⟩
                  | refine wpList_appI (n := (blG s (k + 1)).length) rfl (.tmp 53) (.tmp 55) rfl rfl HS1.out.2.2 (by have := HS1.out.1.sz; exact this) _ _ rfl rfl (by have := blG_len s (k + 1); omega) ?_
                    intro v' w6 h1 h2
                    obtain ⟨p', c', rfl⟩ := own_slice h1
                    have HS6 := Lib.hid (And.intro h1 h2)
                    clear h1 h2
                    go_wp2_with fail
                    refine wp_label ?_
                    go_wp2_with fail
                    refine jump_normal ?_
                    have HSY := Lib.hid (And.intro (Below.grown HS1.out.1 HS6.out.2 HS1.out.1.sz (fun k e => (HS1.out.2.2.lt _ e).1) : Ext w2 w6) (And.intro (HS6.out.2.block _ (blk_lt HS1.out.2.1) (own_iter HS1.out.2.2 HS1.out.2.1) |>.trans HS1.out.2.1) HS6.out.1))
                    go_wp2_with fail
                    obtain ⟨hi, hm, ha⟩ := HM.out
                    refine ⟨⟨_, pos + d.2, show Value.int .i64 _ = Value.int .i64 (((k + 1 + 1 : Nat) : Int) - 1) by simp, by rw [HNV.out.1]; (try rfl), by rw [HNV.out.2.1]; (try rfl), by rw [HNV.out.2.2]; (try rfl), HSY.out.2.1, Lib.hid ha, (by rw [HBL.out, HSM.out]; (simp only [Nat.reduceBEq, leafR]); have hm := HM.out.choose_spec.1; rw [hm, nW_app, List.length_append]; exact HSY.out.2.2), HSY.out.1⟩, by rw [iterPos_of HSY.out.2.1, hpos]; omega⟩
          · have y4 : ((y : Int) == 4) = false := notIn hy2 4 (by decide)
            have y5 : ((y : Int) == 5) = false := notIn hy2 5 (by decide)
            have y12 : ((y : Int) == 12) = false := notIn hy2 12 (by decide)
            have y13 : ((y : Int) == 13) = false := notIn hy2 13 (by decide)
            have HYN := Lib.hid hy2
            clear hy2
            rcases jn with _ | _ <;> rcases j with _ | _ <;> rcases p with _ | _
            all_goals
              go_wp2_with fail
              refine wp_scope_on 0 rfl ?_
              go_wp2_with fail
              refine HJ.out.mono ?_
              rintro e w5 ⟨rfl, rfl⟩
              go_wp2_with (at_builtin; refine Hid.out ?_)
              first
                | refine wp_goto (@And.intro (0 = 0) _ rfl ?_)
                  go_wp2_with fail
                  refine noGoto_normal ?_
                  go_wp2_with fail
                  obtain ⟨hi, hm, ha⟩ := HM.out
                  refine ⟨⟨_, pos + d.2, show Value.int .i64 _ = Value.int .i64 (((k + 1 + 1 : Nat) : Int) - 1) by simp, by rw [HNV.out.1]; try (have h := HYN.out; simp only [List.mem_cons, List.not_mem_nil, or_false, not_or] at h; simp [h]), by rw [HNV.out.2.1]; try (have h := HYN.out; simp only [List.mem_cons, List.not_mem_nil, or_false, not_or] at h; simp [h]), by rw [HNV.out.2.2]; try (have h := HYN.out; simp only [List.mem_cons, List.not_mem_nil, or_false, not_or] at h; simp [h]), HS1.out.2.1, Lib.hid ha, (by rw [HBL.out, HSM.out]; (have z12 : (y == 12) = false := beq_eq_false_iff_ne.2 (fun e => HYN.out (by rw [e]; decide)); have z13 : (y == 13) = false := beq_eq_false_iff_ne.2 (fun e => HYN.out (by rw [e]; decide)); simp only [And.intro leafR (And.intro z12 z13)]); exact HS1.out.2.2), HS1.out.1⟩, by rw [iterPos_of HS1.out.2.1, hpos]; omega⟩
                | refine wpList_appI (n := (blG s (k + 1)).length) rfl (.tmp 53) (.tmp 55) rfl rfl HS1.out.2.2 (by have := HS1.out.1.sz; exact this) _ _ rfl rfl (by have := blG_len s (k + 1); omega) ?_
                  intro v' w6 h1 h2
                  obtain ⟨p', c', rfl⟩ := own_slice h1
                  have HS6 := Lib.hid (And.intro h1 h2)
                  clear h1 h2
                  go_wp2_with fail
                  refine wp_label ?_
                  go_wp2_with fail
                  refine jump_normal ?_
                  have HSY := Lib.hid (And.intro (Below.grown HS1.out.1 HS6.out.2 HS1.out.1.sz (fun k e => (HS1.out.2.2.lt _ e).1) : Ext w2 w6) (And.intro (HS6.out.2.block _ (blk_lt HS1.out.2.1) (own_iter HS1.out.2.2 HS1.out.2.1) |>.trans HS1.out.2.1) HS6.out.1))
                  go_wp2_with fail
                  obtain ⟨hi, hm, ha⟩ := HM.out
                  refine ⟨⟨_, pos + d.2, show Value.int .i64 _ = Value.int .i64 (((k + 1 + 1 : Nat) : Int) - 1) by simp, by rw [HNV.out.1]; try (have h := HYN.out; simp only [List.mem_cons, List.not_mem_nil, or_false, not_or] at h; simp [h]), by rw [HNV.out.2.1]; try (have h := HYN.out; simp only [List.mem_cons, List.not_mem_nil, or_false, not_or] at h; simp [h]), by rw [HNV.out.2.2]; try (have h := HYN.out; simp only [List.mem_cons, List.not_mem_nil, or_false, not_or] at h; simp [h]), HSY.out.2.1, Lib.hid ha, (by rw [HBL.out, HSM.out]; (have z12 : (y == 12) = false := beq_eq_false_iff_ne.2 (fun e => HYN.out (by rw [e]; decide)); have z13 : (y == 13) = false := beq_eq_false_iff_ne.2 (fun e => HYN.out (by rw [e]; decide)); simp only [And.intro leafR (And.intro z12 z13)]); have hm := HM.out.choose_spec.1; rw [hm, nW_app, List.length_append]; exact HSY.out.2.2), HSY.out.1⟩, by rw [iterPos_of HSY.out.2.1, hpos]; omega⟩
      · have hnx : ∀ ty, (Instr.next (.pointer (some ⟨w3.heap.size, 0, none⟩)) true ty).run Tryz.prog W = _ := fun ty => Lib.run_next_end_at W w3.heap.size s pos ty hit hlt
        have HE := Lib.hid (HA.out.stop hlt)
        have HS1 := Lib.hid (And.intro hx hown)
        obtain ⟨pl, cl, rfl⟩ := own_slice hown
        have hzI : ((s.size : Nat) : Int) ≤ 65536 := by omega
        clear hx hown
        go_wp2_with (at_builtin; refine Hid.out ?_)
        refine wpList_appI (n := (blG s i).length) rfl (.tmp 75) (.tmp 78) rfl rfl HS1.out.2 (by have := HS1.out.1.sz; exact this) _ _ rfl rfl (by have := blG_len s i; omega) ?_
        intro v' w6 h1 h2
        obtain ⟨p', c', rfl⟩ := own_slice h1
        have HS6 := Lib.hid (And.intro h1 h2)
        clear h1 h2
        go_wp2_with fail
        refine ret_one rfl rfl rfl ⟨_, rfl, ?_, ?_⟩
        · rw [HS.out, ← HE.out, nW_app, List.length_append]
          exact own_lower HS6.out.1 HC.out.2.sz
        · exact HC.out.2.trans (Below.grown HS1.out.1 HS6.out.2 HS1.out.1.sz (fun k e => (HS1.out.2.lt _ e).1))
end Go.Proofs.YtlmkbldiicbejaaGreatDoor
