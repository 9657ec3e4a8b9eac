/-
  What lines cost. What stands while the size of a line is looked for. What lines cost: the whole.
-/
import Derived.Test.YtlmkbldiicbejaaGreatDoorWrJ
section
namespace Go.Proofs.YtlmkbldiicbejaaGreatDoor
open Go.RowKit Go.Rp Go.Maps Go.Cl Go.Shelf Go.Gr

set_option maxRecDepth 100000 in
set_option maxHeartbeats 4000000 in
theorem c_cost1 (p : Option Addr) (n c : Nat) (f W F R H : Int) (i j en sz pb ib eb fb sb : Nat) (fv : Bool) (S cv rm : Int) (w : World) (hW : InK W) (hF : InK F) (hR : InK R)
    (hp : w.heap[pb]? = some (.cells #[.slice p n c, .int .i64 f, .int .i64 W, .int .i64 F, .int .i64 R, .int .i64 H] 61 (0, 0))) (hib : Boxed w ib 3 (.int .i64 (i : Nat))) (heb : Boxed w eb 3 (.int .i64 (en : Nat))) (hfb : Boxed w fb 4 (.bool fv)) (hsb : Boxed w sb 2 (.int .i64 S)) (hfs : sb ≠ fb ∧ pb ≠ fb ∧ ib ≠ fb ∧ pb ≠ sb ∧ ib ≠ sb ∧ eb ≠ fb ∧ eb ≠ sb)
    (hn : n ≤ 4096) (hi : i ≤ 4096) (hj : j < n) (hen : en ≤ 4096) (hsz : sz ≤ 900000000) (hS : 0 ≤ S ∧ S ≤ 1000000000000000000)
    (hrm : rm = if i = 0 then W - F else W - R) (hcv : cv = if rm - (sz : Nat) < 0 then 10 * (rm - (sz : Nat)) * (rm - (sz : Nat)) else if j + 1 = n then 0 else (rm - (sz : Nat)) * (rm - (sz : Nat))) (hc : 0 ≤ cv ∧ cv ≤ 8200000000000000000) :
    Calls Tryz.prog 32 #[.int .i64 (j : Nat), .int .i64 (sz : Nat), .pointer (some ⟨eb, 0, none⟩), .pointer (some ⟨pb, 0, none⟩), .pointer (some ⟨ib, 0, none⟩), .pointer (some ⟨fb, 0, none⟩), .pointer (some ⟨sb, 0, none⟩)] w fun e w' => e = .returned (.bool (decide (j < en))) ∧ (j ≠ en → Ext w w') ∧ (j = en → ∃ w1 w2, Ext w w1 ∧ Ext (w1.setCell ⟨fb, 0, none⟩ (.bool (decide ((sz : Int) ≤ rm) || decide (i = j)))) w2 ∧ w' = w2.setCell ⟨sb, 0, none⟩ (.int .i64 (S + cv))) := by
  have k0 := (cell_blk hp 0).trans rfl
  have k1 := (cell_blk hp 1).trans rfl
  have k2 := (cell_blk hp 2).trans rfl
  have k3 := (cell_blk hp 3).trans rfl
  have k4 := (cell_blk hp 4).trans rfl
  have k5 := (cell_blk hp 5).trans rfl
  have k6 := hib.cell
  have k7 := heb.cell
  have k8 := hsb.cell
  have HRM := Lib.hid (fun w' => c_room p n c f W F R H i w' hW hF hR)
  have HPC := Lib.hid (fun w' => c_pcost p n c f W F R H i j sz w' (by omega) hW hF hR (by omega))
  rw [← hrm] at HRM HPC
  rw [← hcv] at HPC
  have HB := Lib.hid (And.intro hp (And.intro hib (And.intro heb (And.intro hfb hsb))))
  clear hp hib heb hfb hsb hrm hcv
  have hszI : ((sz : Nat) : Int) ≤ 900000000 := by omega
  have hnI : ((n : Nat) : Int) ≤ 4096 := by omega
  have hjI : ((j : Nat) : Int) < (n : Nat) := by omega
  have hiI : ((i : Nat) : Int) ≤ 4096 := by omega
  have heI : ((en : Nat) : Int) ≤ 4096 := by omega
  by_cases hje : j = en
  · subst hje
    have hdj : (((j : Nat) : Int) == (j : Nat)) = true := by simp
    go_enter Tryz.func32, Tryz.ntmps32
    go_wp2_with fail
    refine (HRM.out w).mono ?_
    rintro e w1 ⟨rfl, hx1⟩
    have HX1 := Lib.hid hx1
    have hp1 := hx1.blk HB.out.1
    have hi1 := HB.out.2.1.ext hx1
    have hf1 := HB.out.2.2.2.1.ext hx1
    have hs1 := HB.out.2.2.2.2.ext hx1
    have m5 := hi1.cell
    have m6 := hf1.cell
    have m7 := hf1.frozen
    have hpk : ∀ v, (w1.setCell ⟨fb, 0, none⟩ v).heap[pb]? = _ := fun v => ((grown_cell w1 fb 0 v).block pb (blk_lt hp1) (fun e => hfs.2.1 (Option.some.inj e))).trans hp1
    have HPK := Lib.hid hpk
    have HI1 := Lib.hid hi1
    have HE1 := Lib.hid (HB.out.2.2.1.ext hx1)
    have HS1 := Lib.hid hs1
    clear k0 k1 k2 k3 k4 k5 k6 k7 k8 HRM hx1 hp1 hi1 hf1 hs1 hpk
    by_cases hle : ((sz : Nat) : Int) ≤ rm
    · have hd1 : decide (((sz : Nat) : Int) ≤ rm) = true := decide_eq_true hle
      go_wp2_with fail
      have hp2 := HPK.out (.bool true)
      have hi2 := HI1.out.other hfs.2.2.1 (.bool true)
      have hs2 := HS1.out.other hfs.1 (.bool true)
      have HE2 := Lib.hid (HE1.out.other hfs.2.2.2.2.2.1 (.bool true))
      have HX2 := Lib.hid (show Ext (w1.setCell ⟨fb, 0, none⟩ (.bool (decide ((sz : Int) ≤ rm) || decide (i = j)))) (w1.setCell ⟨fb, 0, none⟩ ((.bool true))) by rw [hd1, Bool.true_or]; exact Ext.refl _)
      generalize w1.setCell ⟨fb, 0, none⟩ ((.bool true)) = w2 at hp2 hi2 hs2 HX2 HE2 ⊢
      have s0 : ∀ w', EOn (fun _ => True) w2 w' → w'.cell? ⟨pb, 0, none⟩ = some (.slice p n c) := fun w' h => h.cell trivial ((cell_blk hp2 0).trans rfl)
      have s1 : ∀ w', EOn (fun _ => True) w2 w' → w'.cell? ⟨pb, 1, none⟩ = some (.int .i64 f) := fun w' h => h.cell trivial ((cell_blk hp2 1).trans rfl)
      have s2 : ∀ w', EOn (fun _ => True) w2 w' → w'.cell? ⟨pb, 2, none⟩ = some (.int .i64 W) := fun w' h => h.cell trivial ((cell_blk hp2 2).trans rfl)
      have s3 : ∀ w', EOn (fun _ => True) w2 w' → w'.cell? ⟨pb, 3, none⟩ = some (.int .i64 F) := fun w' h => h.cell trivial ((cell_blk hp2 3).trans rfl)
      have s4 : ∀ w', EOn (fun _ => True) w2 w' → w'.cell? ⟨pb, 4, none⟩ = some (.int .i64 R) := fun w' h => h.cell trivial ((cell_blk hp2 4).trans rfl)
      have s5 : ∀ w', EOn (fun _ => True) w2 w' → w'.cell? ⟨pb, 5, none⟩ = some (.int .i64 H) := fun w' h => h.cell trivial ((cell_blk hp2 5).trans rfl)
      have s6 : ∀ w', EOn (fun _ => True) w2 w' → w'.cell? ⟨ib, 0, none⟩ = some (.int .i64 (i : Nat)) := fun w' h => h.cell trivial hi2.cell
      have HS2 := Lib.hid hs2
      have s7 : ∀ w', EOn (fun _ => True) w2 w' → w'.cell? ⟨sb, 0, none⟩ = some (.int .i64 S) := fun w' h => h.cell trivial hs2.cell
      clear hp2 hi2 hs2
      refine wp_lex (fun _ => True) [true, true, true, true, true, true, true] (by kernel_rfl) (by kernel_rfl) ?_
      repeat first
        | refine wpG_move' ?_
        | refine wpG_assign' ?_
        | refine wpG_call (by rfl) (fun w' hx => (by go_simp; first | exact rfl | exact ⟨rfl, rfl⟩)) (fun w' hx => (by first | exact HPC.out w')) (by simp only [Act.put, List.setIfInBounds_toArray, List.set_cons_succ, List.set_cons_zero]; rfl) ?_
        | refine wpG_val' ?_
        | refine wpG_no' ?_
      refine wpG_end (fun w3 hx3 => ?_)
      clear s0 s1 s2 s3 s4 s5 s6 s7
      have z0 := (HS2.out.ext hx3).frozen
      have z1 := (HS2.out.ext hx3).cell
      have z2 := fun v => ((HE2.out.ext hx3).other hfs.2.2.2.2.2.2 v).cell
      have HXZ := Lib.hid (HX2.out.trans hx3)
      clear hx3
      go_wp2_with fail
      refine gQ_normal ?_
      go_wp2_with fail
      exact ret_one rfl rfl rfl ⟨by simp, fun q => absurd rfl q, fun _ => ⟨w1, w3, HX1.out, HXZ.out, rfl⟩⟩
    · have hd1 : decide (((sz : Nat) : Int) ≤ rm) = false := decide_eq_false hle
      have hij : (((i : Nat) : Int) == (j : Nat)) = decide (i = j) := by rw [Bool.eq_iff_iff]; simp; omega
      go_wp2_with fail
      have hp2 := HPK.out (.bool (decide (i = j)))
      have hi2 := HI1.out.other hfs.2.2.1 (.bool (decide (i = j)))
      have hs2 := HS1.out.other hfs.1 (.bool (decide (i = j)))
      have HE2 := Lib.hid (HE1.out.other hfs.2.2.2.2.2.1 (.bool (decide (i = j))))
      have HX2 := Lib.hid (show Ext (w1.setCell ⟨fb, 0, none⟩ (.bool (decide ((sz : Int) ≤ rm) || decide (i = j)))) (w1.setCell ⟨fb, 0, none⟩ ((.bool (decide (i = j))))) by rw [hd1, Bool.false_or]; exact Ext.refl _)
      generalize w1.setCell ⟨fb, 0, none⟩ ((.bool (decide (i = j)))) = w2 at hp2 hi2 hs2 HX2 HE2 ⊢
      have s0 : ∀ w', EOn (fun _ => True) w2 w' → w'.cell? ⟨pb, 0, none⟩ = some (.slice p n c) := fun w' h => h.cell trivial ((cell_blk hp2 0).trans rfl)
      have s1 : ∀ w', EOn (fun _ => True) w2 w' → w'.cell? ⟨pb, 1, none⟩ = some (.int .i64 f) := fun w' h => h.cell trivial ((cell_blk hp2 1).trans rfl)
      have s2 : ∀ w', EOn (fun _ => True) w2 w' → w'.cell? ⟨pb, 2, none⟩ = some (.int .i64 W) := fun w' h => h.cell trivial ((cell_blk hp2 2).trans rfl)
      have s3 : ∀ w', EOn (fun _ => True) w2 w' → w'.cell? ⟨pb, 3, none⟩ = some (.int .i64 F) := fun w' h => h.cell trivial ((cell_blk hp2 3).trans rfl)
      have s4 : ∀ w', EOn (fun _ => True) w2 w' → w'.cell? ⟨pb, 4, none⟩ = some (.int .i64 R) := fun w' h => h.cell trivial ((cell_blk hp2 4).trans rfl)
      have s5 : ∀ w', EOn (fun _ => True) w2 w' → w'.cell? ⟨pb, 5, none⟩ = some (.int .i64 H) := fun w' h => h.cell trivial ((cell_blk hp2 5).trans rfl)
      have s6 : ∀ w', EOn (fun _ => True) w2 w' → w'.cell? ⟨ib, 0, none⟩ = some (.int .i64 (i : Nat)) := fun w' h => h.cell trivial hi2.cell
      have HS2 := Lib.hid hs2
      have s7 : ∀ w', EOn (fun _ => True) w2 w' → w'.cell? ⟨sb, 0, none⟩ = some (.int .i64 S) := fun w' h => h.cell trivial hs2.cell
      clear hp2 hi2 hs2
      refine wp_lex (fun _ => True) [true, true, true, true, true, true, true] (by kernel_rfl) (by kernel_rfl) ?_
      repeat first
        | refine wpG_move' ?_
        | refine wpG_assign' ?_
        | refine wpG_call (by rfl) (fun w' hx => (by go_simp; first | exact rfl | exact ⟨rfl, rfl⟩)) (fun w' hx => (by first | exact HPC.out w')) (by simp only [Act.put, List.setIfInBounds_toArray, List.set_cons_succ, List.set_cons_zero]; rfl) ?_
        | refine wpG_val' ?_
        | refine wpG_no' ?_
      refine wpG_end (fun w3 hx3 => ?_)
      clear s0 s1 s2 s3 s4 s5 s6 s7
      have z0 := (HS2.out.ext hx3).frozen
      have z1 := (HS2.out.ext hx3).cell
      have z2 := fun v => ((HE2.out.ext hx3).other hfs.2.2.2.2.2.2 v).cell
      have HXZ := Lib.hid (HX2.out.trans hx3)
      clear hx3
      go_wp2_with fail
      refine gQ_normal ?_
      go_wp2_with fail
      exact ret_one rfl rfl rfl ⟨by simp, fun q => absurd rfl q, fun _ => ⟨w1, w3, HX1.out, HXZ.out, rfl⟩⟩
  · have h1 : ¬ ((j : Nat) : Int) = (en : Nat) := by omega
    have h2 : (((j : Nat) : Int) < (en : Nat)) ↔ j < en := by omega
    have hd : decide (((j : Nat) : Int) < (en : Nat)) = decide (j < en) := decide_eq_decide.2 h2
    go_enter Tryz.func32, Tryz.ntmps32
    go_wp2_with fail
    exact ret_one rfl rfl rfl ⟨rfl, fun _ => Ext.refl w, fun q => absurd q hje⟩
end Go.Proofs.YtlmkbldiicbejaaGreatDoor
end

section
namespace Go.Proofs.YtlmkbldiicbejaaGreatDoor
open Go.RowKit Go.Rp Go.Maps Go.Cl Go.Shelf Go.Gr

/-- What stands while a line's size is looked for. -/
structure CoI (K : World → Prop) (p : Option Addr) (c f : Nat) (W F R H : Int) (L : List Wp.Bx) (i q pb ib eb fb sb : Nat) (b : Bool) (S : Int) (w : World) (V : World) : Prop where
  k : K V
  row : BxRow V (.slice p L.length c) (L.map bxI)
  hp : V.heap[pb]? = some (.cells #[.slice p L.length c, .int .i64 (f : Nat), .int .i64 W, .int .i64 F, .int .i64 R, .int .i64 H] 61 (0, 0))
  hi : Boxed V ib 3 (.int .i64 (i : Nat))
  he : Boxed V eb 3 (.int .i64 (q : Nat))
  hf : Boxed V fb 4 (.bool b)
  hs : Boxed V sb 2 (.int .i64 S)
  x : Ext w V
theorem CoI.ext {K : World → Prop} (hK : ∀ A C, K A → Ext A C → K C) {p : Option Addr} {c f : Nat} {W F R H : Int} {L : List Wp.Bx} {i q pb ib eb fb sb : Nat} {b : Bool} {S : Int} {w A B : World} (h : CoI K p c f W F R H L i q pb ib eb fb sb b S w A) (hx : Ext A B) : CoI K p c f W F R H L i q pb ib eb fb sb b S w B :=
  ⟨hK _ _ h.k hx, h.row.ext hx, hx.blk h.hp, h.hi.ext hx, h.he.ext hx, h.hf.ext hx, h.hs.ext hx, h.x.trans hx⟩
theorem CoI.next {K : World → Prop} (hK : ∀ A C, K A → Ext A C → K C) {p : Option Addr} {c f : Nat} {W F R H : Int} {L : List Wp.Bx} {i q pb ib eb fb sb : Nat} {S : Int} {w w0 : World} (hpar : IsPar L) (hsm : SmB L) (hi : i < L.length) (hq : q < L.length) (hW : InK W) (hF : InK F) (hR : InK R) (hK2 : ∀ A v, K A → K (A.setCell ⟨fb, 0, none⟩ v)) (hK3 : ∀ A v, K A → K (A.setCell ⟨sb, 0, none⟩ v))
    (hr0 : BxRow w (.slice p L.length c) (L.map bxI)) (hn : L.length ≤ 64) (ho : w.heap.size ≤ sb ∧ sb < pb ∧ pb < ib ∧ ib < eb ∧ eb < fb ∧ fb < w0.heap.size) (hS : 0 ≤ S ∧ S ≤ 1000000000000000000) (hcb : ∀ j, j < L.length → Wp.cost ⟨W, F, R⟩ L i j ≤ 8200000000000000000)
    (j : Nat) (V : World) (_ : i ≤ j) (hj : j < L.length) (_ : j ≤ q) (h : CoI K p c f W F R H L i q pb ib eb fb sb true S w V) :
    Calls Tryz.prog 32 (#[.int .i64 (j : Nat), .int .i64 (szP L i j : Nat)] ++ #[.pointer (some ⟨eb, 0, none⟩), .pointer (some ⟨pb, 0, none⟩), .pointer (some ⟨ib, 0, none⟩), .pointer (some ⟨fb, 0, none⟩), .pointer (some ⟨sb, 0, none⟩)]) V fun e V' => e = .returned (.bool (decide (j < q))) ∧ (j < q → CoI K p c f W F R H L i q pb ib eb fb sb true S w V' ∧ Ext V V') ∧ (j = q → CoI K p c f W F R H L i q pb ib eb fb sb (Wp.fit ⟨W, F, R⟩ L i j) (S + Wp.cost ⟨W, F, R⟩ L i j) w V' ∧ Up w0.heap.size V V') := by
  have hfit := hpar.fit ⟨W, F, R⟩ hi hj
  have hcost := hpar.cost ⟨W, F, R⟩ hi hj
  simp only at hfit hcost
  obtain ⟨rm, hrm⟩ : ∃ rm, (if i = 0 then W - F else W - R) = rm := ⟨_, rfl⟩
  rw [hrm] at hfit hcost
  refine (c_cost1 p L.length c f W F R H i j q (szP L i j) pb ib eb fb sb true S _ rm V hW hF hR h.hp h.hi h.he h.hf h.hs (by omega) (by omega) (by omega) hj (by omega) (hsm.sz hj) hS hrm.symm hcost ⟨Wp.cost_nn _ _ _ _, hcb j hj⟩).mono ?_
  rintro e V' ⟨rfl, h1, h2⟩
  refine ⟨rfl, fun hlt => ?_, fun heq => ?_⟩
  · have hx := h1 (by omega)
    exact ⟨h.ext hK hx, hx⟩
  · obtain ⟨w1, w2, hx1, hx2, rfl⟩ := h2 heq
    have a1 := h.ext hK hx1
    have hsz := h.x.sz
    have g1 := grown_cell w1 fb 0 (.bool (decide ((szP L i j : Int) ≤ rm) || decide (i = j)))
    have hb : (decide ((szP L i j : Int) ≤ rm) || decide (i = j)) = Wp.fit ⟨W, F, R⟩ L i j := by
      rw [hfit, Bool.or_comm]
      congr 1
    rw [hb] at g1 hx2
    have a2 : CoI K p c f W F R H L i q pb ib eb fb sb (Wp.fit ⟨W, F, R⟩ L i j) S w (w1.setCell ⟨fb, 0, none⟩ (.bool (Wp.fit ⟨W, F, R⟩ L i j))) := by
      have hx : Ext w (w1.setCell ⟨fb, 0, none⟩ (.bool (Wp.fit ⟨W, F, R⟩ L i j))) := Ext.setCell a1.x (show w.heap.size ≤ fb by omega) _
      exact ⟨hK2 _ _ a1.k, hr0.ext hx, (g1.block pb (blk_lt a1.hp) (fun e => by have := Option.some.inj e; omega)).trans a1.hp, a1.hi.other (by omega) _, a1.he.other (by omega) _, a1.hf.set _, a1.hs.other (by omega) _, hx⟩
    have a3 := a2.ext hK hx2
    have g3 := grown_cell w2 sb 0 (.int .i64 (S + Wp.cost ⟨W, F, R⟩ L i j))
    have hx : Ext w (w2.setCell ⟨sb, 0, none⟩ (.int .i64 (S + Wp.cost ⟨W, F, R⟩ L i j))) := Ext.setCell a3.x (show w.heap.size ≤ sb by omega) _
    refine ⟨⟨hK3 _ _ a3.k, hr0.ext hx, (g3.block pb (blk_lt a3.hp) (fun e => by have := Option.some.inj e; omega)).trans a3.hp, a3.hi.other (by omega) _, a3.he.other (by omega) _, a3.hf.other (by omega) _, a3.hs.set _, hx⟩, ?_⟩
    refine (Up.of_ext hx1).trans (Up.trans ⟨g1.size, fun k hk hl => g1.block k hl (fun e => by have := Option.some.inj e; omega)⟩ ((Up.of_ext hx2).trans ⟨g3.size, fun k hk hl => g3.block k hl (fun e => by have := Option.some.inj e; omega)⟩))
end Go.Proofs.YtlmkbldiicbejaaGreatDoor
end

section
namespace Go.Proofs.YtlmkbldiicbejaaGreatDoor
open Go.RowKit Go.Rp Go.Maps Go.Cl Go.Shelf Go.Gr

theorem pars_nil {l : List Wp.Bx} {p : Nat} (hp : p ≤ l.length) (h : Wp.parsL l l.length p = []) : p = l.length := by
  rcases Nat.lt_or_ge p l.length with hl | hl
  · rw [Wp.parsL_fuel l l.length (l.length + 1) p (by omega) (by omega), Wp.parsL, if_pos hl] at h
    cases h
  · omega
theorem pars_cons {l : List Wp.Bx} {p : Nat} {x : Nat × Nat} {m : List (Nat × Nat)} (h : x :: m = Wp.parsL l l.length p) : p < l.length ∧ x = (p, Wp.lst l p + 1) ∧ m = Wp.parsL l l.length (Wp.lst l p + 1) := by
  rw [Wp.parsL_fuel l l.length (l.length + 1) p (by omega) (by omega), Wp.parsL] at h
  split at h
  · rename_i hl
    exact ⟨hl, (List.cons.inj h).1, (List.cons.inj h).2⟩
  · cases h
theorem costF_full (r : Wp.Wr) (l : List Wp.Bx) : ∀ rs : List Int, rs ≠ [] → Wp.costF r l l.length rs = none
  | [], h => absurd rfl h
  | e :: es, _ => by
    rw [Wp.costF, if_pos (by omega)]
theorem cost_ret {S c : Int} {x b : Bool} (h1 : S = c) (h2 : x = b) : Ending.returned (.tuple #[.int .i64 S, .bool x]) = .returned (.tuple #[.int .i64 c, .bool b]) := by rw [h1, h2]
set_option maxRecDepth 100000 in
set_option maxHeartbeats 4000000 in
theorem c_Cost (g o cap : Nat) (W F R H : Int) (l : List Wp.Bx) (ve : Value) (es : List Int) (w : World) (hrow : BxRow w (.slice (some ⟨g, o, none⟩) l.length cap) (l.map bxI)) (hes : IRow w ve es) (hee : ∀ x ∈ es, -9223372036854775808 ≤ x ∧ x ≤ 9223372036854775807) (_ : es.length ≤ 1000000) (hsm : SmB l) (hn : l.length ≤ 64) (hok : WrOk W F R H) :
    Calls Tryz.prog 16 #[.slice (some ⟨g, o, none⟩) l.length cap, .agg #[.int .i64 W, .int .i64 F, .int .i64 R, .int .i64 H], ve] w fun e w' => e = .returned (.tuple #[.int .i64 ((Wp.costF ⟨W, F, R⟩ l 0 es).getD 0), .bool (Wp.costF ⟨W, F, R⟩ l 0 es).isSome]) ∧ Ext w w' := by
  obtain ⟨cc, hcc⟩ : ∃ cc, (Wp.costF ⟨W, F, R⟩ l 0 es).getD 0 = cc := ⟨_, rfl⟩
  obtain ⟨cb, hcb⟩ : ∃ cb, (Wp.costF ⟨W, F, R⟩ l 0 es).isSome = cb := ⟨_, rfl⟩
  rw [hcc, hcb]
  have HCC := Lib.hid (And.intro hcc hcb)
  clear hcc hcb
  have HROW := Lib.hid hrow
  have HES := Lib.hid hes
  have HEE := Lib.hid hee
  have HSM := Lib.hid hsm
  have HOK := Lib.hid hok
  have hchk := chkK_ok W F R H l hsm hn hok
  have HCK := Lib.hid hchk
  have hlI : ((l.length : Nat) : Int) ≤ 64 := by omega
  have hcap : l.length ≤ cap := by
    obtain ⟨p', cap', e, hc, _⟩ := hrow
    rw [List.length_map] at e hc
    simp only [Value.slice.injEq] at e
    omega
  clear hrow hes hee hsm hchk
  go_enter Tryz.func16, Tryz.ntmps16
  go_wp2_with fail
  have hbo := World.alloc_heap_new w (.cells #[.int .i64 W, .int .i64 F, .int .i64 R, .int .i64 H] 24)
  have hx0 := (Ext.refl w).alloc (.cells #[.int .i64 W, .int .i64 F, .int .i64 R, .int .i64 H] 24)
  generalize w.alloc (.cells #[.int .i64 W, .int .i64 F, .int .i64 R, .int .i64 H] 24) = w1 at hbo hx0 ⊢
  obtain ⟨B, hB⟩ : ∃ B, w.heap.size = B := ⟨_, rfl⟩
  rw [hB] at hbo ⊢
  have HB := Lib.hid hB
  refine (c_wrCheck _ (l.map bxI) W F R H w1 (HROW.out.ext hx0)).mono ?_
  rintro e w2 ⟨rfl, hx2⟩
  rw [HCK.out]
  have HX2 := Lib.hid (hx0.trans hx2)
  have HO2 := Lib.hid (hx2.blk hbo)
  have m0 := fun ob => ((Ext.refl w2).alloc ob).cell ((cell_blk HO2.out 0).trans rfl)
  have m1 := fun ob => ((Ext.refl w2).alloc ob).cell ((cell_blk HO2.out 1).trans rfl)
  have m2 := fun ob => ((Ext.refl w2).alloc ob).cell ((cell_blk HO2.out 2).trans rfl)
  have m3 := fun ob => ((Ext.refl w2).alloc ob).cell ((cell_blk HO2.out 3).trans rfl)
  clear hbo hx0 hx2 hB
  go_wp2_with fail
  clear m0 m1 m2 m3
  have hsb := Boxed.new w2 2 (.int .i64 0)
  have hx2 := (Ext.refl w2).alloc (.cells #[.int .i64 0] 2)
  have hsz := World.size_alloc w2 (.cells #[.int .i64 0] 2)
  generalize w2.alloc (.cells #[.int .i64 0] 2) = w3 at hsb hx2 hsz ⊢
  obtain ⟨sb, hsbn⟩ : ∃ sb, w2.heap.size = sb := ⟨_, rfl⟩
  rw [hsbn] at hsb hsz ⊢
  refine (c_pars g o cap W F R H l w3 (HROW.out.ext (HX2.out.trans hx2)) (by omega)).mono ?_
  rintro e w4 ⟨vp, rfl, hownp, hx4⟩
  obtain ⟨pp, cp, rfl⟩ := own_slice hownp
  have HOP := Lib.hid hownp
  have HSB := Lib.hid (hsb.ext hx4)
  have HX4 := Lib.hid ((HX2.out.trans hx2).trans hx4)
  have HSN := Lib.hid (show B ≤ sb by rw [← HB.out, ← hsbn]; exact HX2.out.sz)
  have HSZ := Lib.hid (show sb < w4.heap.size from Nat.lt_of_lt_of_le (by rw [hsz]; omega) hx4.sz)
  rw [hsz] at HOP
  clear hownp hx4 hx2 hsb hsz hsbn
  have HPR := Lib.hid (Wp.parsL_par l l.length 0 (fun _ => rfl))
  have hpl : (Wp.parsL l l.length 0).length ≤ 64 := by
    have h1 := (Wp.greedy_pars ⟨W, F, R⟩ l l.length 0 (by omega)).1
    have := greedy_len ⟨W, F, R⟩ l l.length 0 (by omega)
    omega
  obtain ⟨O, hO⟩ : ∃ O, Wp.parsL l l.length 0 = O := ⟨_, rfl⟩
  rw [hO] at HOP HPR hpl ⊢
  have HO := Lib.hid hO
  have hplI : ((O.length : Nat) : Int) ≤ 64 := by omega
  clear hO
  obtain ⟨ep, ec, rfl, hec, _⟩ := HES.out
  go_wp2_with fail
  go_loopw [2, 12, 13, 14, 15, 28] (fun ev _ _ _ _ cv V => ∃ (k p : Nat) (rs : List Int) (S : Int), cv = .int .i64 (k : Nat) ∧ k ≤ O.length ∧ p ≤ l.length ∧ rs.length ≤ es.length ∧ 0 ≤ S ∧ S ≤ 2000000000000000 * (p : Nat) ∧ Hid (O.drop k = Wp.parsL l l.length p) ∧ Hid (p < l.length → Wp.start l p = true) ∧ Hid (Wp.costF ⟨W, F, R⟩ l 0 es = (Wp.costF ⟨W, F, R⟩ l p rs).map (S + ·)) ∧ Hid (∀ x ∈ rs, -9223372036854775808 ≤ x ∧ x ≤ 9223372036854775807) ∧ Hid (Boxed V sb 2 (.int .i64 S)) ∧ Hid (IRow w ev rs) ∧ Hid (V.ownsRow (sb + 1) 61 6 (.slice pp O.length cp) O.length (pgW g o cap W F R H O)) ∧ Hid (Ext w V)) (fun _ _ _ _ _ cv _ => O.length + 1 - (intOf cv).toNat)
  case atStart =>
    refine ⟨0, 0, es, 0, rfl, Nat.zero_le _, Nat.zero_le _, Nat.le_refl _, Int.le_refl _, by omega, Lib.hid HO.out.symm, Lib.hid (fun _ => rfl), Lib.hid ?_, HEE, HSB, HES, HOP, HX4⟩
    cases Wp.costF ⟨W, F, R⟩ l 0 es <;> simp
  case round =>
    obtain ⟨k, p, rs, S, rfl, hk, hp, hrl, hS0, hS1, HDR, HST, HCF, HRE, HSB1, HRS, HOP1, HXV⟩ := hrel
    obtain ⟨V, rfl⟩ : ∃ V, V = wr := ⟨_, rfl⟩
    obtain ⟨ep', ec', rfl, hec', _⟩ := HRS.out
    clear HO HSB HOP HES HEE HX4 HSZ
    by_cases hil : k < O.length
    · have hI : ((k : Nat) : Int) < (O.length : Nat) := by omega
      have hd : decide (k < O.length) = true := decide_eq_true hil
      obtain ⟨gp, rfl, _, _, hgc⟩ := own_at HOP1.out (by omega)
      obtain ⟨e0, e1, e2, e3, e4, e5⟩ := pgW_get g o cap W F R H O k hil
      have d0 := ((hgc (k * 6) (by omega)).trans e0)
      have d1 := ((hgc (k * 6 + 1) (by omega)).trans e1)
      have d2 := ((hgc (k * 6 + 2) (by omega)).trans e2)
      have d3 := ((hgc (k * 6 + 3) (by omega)).trans e3)
      have d4 := ((hgc (k * 6 + 4) (by omega)).trans e4)
      have d5 := ((hgc (k * 6 + 5) (by omega)).trans e5)
      have hpx := HPR.out O[k] (List.getElem_mem hil)
      have hdk : O.drop k = O[k] :: O.drop (k + 1) := List.drop_eq_getElem_cons hil
      obtain ⟨hpl1, hxk, hdk1⟩ := pars_cons (hdk.symm.trans HDR.out)
      generalize O[k] = x at d0 d1 d2 d3 d4 d5 hpx hxk
      subst hxk
      have HD1 := Lib.hid hdk1
      have HPX := Lib.hid hpx
      simp only at d0 d1
      obtain ⟨t, ht⟩ : ∃ t, Wp.lst l p + 1 = t := ⟨_, rfl⟩
      rw [ht] at HD1 HPX d0
      have HT := Lib.hid ht
      have hpt := HPX.out.le
      simp only at hpt
      clear hdk hdk1 ht hpx hgc e0 e1 e2 e3 e4 e5
      have c0 : ∀ ob ob', ((V.alloc ob).alloc ob').cell? ⟨gp, k * 6, none⟩ = _ := fun ob ob' => (((Ext.refl V).alloc ob).alloc ob').cell d0
      go_wp2_with fail
      have hpb := (Below.heap_alloc (V.alloc (.cells #[.slice (some ⟨g, o + p * 4, none⟩) (t - p) (cap - p), .int .i64 (p : Nat), .int .i64 W, .int .i64 F, .int .i64 R, .int .i64 H] 61)) (.cells #[.int .i64 0] 3) V.heap.size (by simp)).trans (World.alloc_heap_new V (.cells #[.slice (some ⟨g, o + p * 4, none⟩) (t - p) (cap - p), .int .i64 (p : Nat), .int .i64 W, .int .i64 F, .int .i64 R, .int .i64 H] 61))
      have hib := Boxed.new (V.alloc (.cells #[.slice (some ⟨g, o + p * 4, none⟩) (t - p) (cap - p), .int .i64 (p : Nat), .int .i64 W, .int .i64 F, .int .i64 R, .int .i64 H] 61)) 3 (.int .i64 0)
      rw [World.size_alloc] at hib
      have hxa := ((Ext.refl V).alloc (.cells #[.slice (some ⟨g, o + p * 4, none⟩) (t - p) (cap - p), .int .i64 (p : Nat), .int .i64 W, .int .i64 F, .int .i64 R, .int .i64 H] 61)).alloc (.cells #[.int .i64 0] 3)
      generalize (V.alloc (.cells #[.slice (some ⟨g, o + p * 4, none⟩) (t - p) (cap - p), .int .i64 (p : Nat), .int .i64 W, .int .i64 F, .int .i64 R, .int .i64 H] 61)).alloc (.cells #[.int .i64 0] 3) = V1 at hpb hib hxa ⊢
      obtain ⟨pb, hpbn⟩ : ∃ pb, V.heap.size = pb := ⟨_, rfl⟩
      rw [hpbn] at hpb hib ⊢
      have HPB := Lib.hid (show sb < pb by rw [← hpbn]; exact blk_lt HSB1.out)
      have HPO := Lib.hid (show gp < pb by rw [← hpbn]; exact (HOP1.out.lt gp rfl).2)
      have HPK := Lib.hid hpb
      have HIB := Lib.hid hib
      have HSB2 := Lib.hid (HSB1.out.ext hxa)
      have HOP2 := Lib.hid (ownsRow_ext HOP1.out hxa)
      have HXV1 := Lib.hid (HXV.out.trans hxa)
      clear hpb hib hxa hpbn d0 d1 d2 d3 d4 d5 c0 HXV HOP1 HSB1
      go_loopw [2, 13, 14, 15] (fun ev iv _ _ U => ∃ (i ib : Nat) (rs : List Int) (S : Int), iv = .pointer (some ⟨ib, 0, none⟩) ∧ i ≤ t - p ∧ rs.length ≤ es.length ∧ 0 ≤ S ∧ S ≤ 2000000000000000 * ((p + i : Nat) : Int) ∧ Hid (Boxed U ib 3 (.int .i64 (i : Nat)) ∧ pb < ib) ∧ Hid (Wp.costF ⟨W, F, R⟩ l 0 es = (Wp.costF ⟨W, F, R⟩ l (p + i) rs).map (S + ·)) ∧ Hid (∀ x ∈ rs, -9223372036854775808 ≤ x ∧ x ≤ 9223372036854775807) ∧ Hid (Boxed U sb 2 (.int .i64 S)) ∧ Hid (IRow w ev rs) ∧ Hid (U.ownsRow (sb + 1) 61 6 (.slice (some ⟨gp, 0, none⟩) O.length cp) O.length (pgW g o cap W F R H O)) ∧ Hid (U.heap[pb]? = some (.cells #[.slice (some ⟨g, o + p * 4, none⟩) (t - p) (cap - p), .int .i64 (p : Nat), .int .i64 W, .int .i64 F, .int .i64 R, .int .i64 H] 61 (0, 0))) ∧ Hid (Ext w U)) (fun _ iv _ _ U => t + 1 - boxNat iv U)
      case atStart => exact ⟨0, pb + 1, rs, S, rfl, Nat.zero_le _, hrl, hS0, hS1, Lib.hid ⟨HIB.out, Nat.lt_succ_self _⟩, HCF, HRE, HSB2, HRS, HOP2, HPK, HXV1⟩
      case round =>
        clear HCF HRE HSB2 HRS HOP2 HPK HXV1 HIB hrl hS0 hS1
        obtain ⟨i, ib, rs, S, rfl, hi, hrl, hS0, hS1, HIB, HCF, HRE, HSB1, HRS, HOP1, HPK, HXV⟩ := hrel
        obtain ⟨U, rfl⟩ : ∃ U, U = wr := ⟨_, rfl⟩
        obtain ⟨ep', ec', rfl, hec', hrow'⟩ := HRS.out
        have i0 := HIB.out.1.cell
        have HMS := Lib.hid i0
        have k0 := (cell_blk HPK.out 0).trans rfl
        have k1 := (cell_blk HPK.out 1).trans rfl
        by_cases hil2 : i < t - p
        · have hI2 : ((i : Nat) : Int) < ((t - p : Nat) : Int) := by omega
          have hd3 : decide (i < t - p) = true := decide_eq_true hil2
          cases rs with
          | nil =>
            go_wp2_with fail
            have h1 := HCC.out
            rw [HCF.out, Wp.costF, if_neg (by omega)] at h1
            exact ret_two rfl rfl rfl rfl ⟨cost_ret h1.1 h1.2, HXV.out⟩
          | cons e rs =>
            obtain ⟨eb0, eo, rfl, _, hc⟩ := hrow' (by simp)
            have HC0 := Lib.hid hc
            have r0 : U.cell? ⟨eb0, eo, none⟩ = some (.int .i64 e) := HXV.out.cell (hc 0 (by simp))
            clear hrow' hc
            have HEB := HRE.out e (by simp)
            have hn0 : ((rs.length : Int) + 1 == 0) = false := by simp; omega
            have hn1 : (0 : Int) < (rs.length : Nat) + 1 := by omega
            obtain ⟨en, hw⟩ : ∃ en : Int, wrap64 (e - (p : Nat)) = en := ⟨_, rfl⟩
            go_wp2_with fail
            have s0 : ∀ w', EOn (fun _ => True) U w' → w'.cell? ⟨eb0, eo, none⟩ = some (.int .i64 e) := fun w' h => h.cell trivial r0
            have s1 : ∀ w', EOn (fun _ => True) U w' → w'.cell? ⟨pb, 1, none⟩ = some (.int .i64 (p : Nat)) := fun w' h => h.cell trivial k1
            clear i0 k0 k1 r0
            refine wp_lex (fun _ => True) [true, true, true, true, true, true, false] (by kernel_rfl) (by kernel_rfl) ?_
            repeat first
              | refine wpG_move' ?_
              | refine wpG_assign' ?_
              | refine wpG_val' ?_
              | refine wpG_no' ?_
            clear s0 s1
            refine wpG_do (by rfl) (fun wa hxa K hK => ?_)
            go_wp2_with fail
            have hxb := Boxed.new wa 3 (.int .i64 0)
            have hxw := (Ext.refl wa).alloc (.cells #[.int .i64 0] 3)
            have HAS := Lib.hid hxa.sz
            have HUX := Lib.hid hxa
            refine ⟨EOn.of_ext hxw, ?_⟩
            generalize wa.alloc (.cells #[.int .i64 0] 3) = wb at hxb hxw ⊢
            generalize wa.heap.size = eb at hxb HAS ⊢
            refine wpG_end (fun w3 hx3 => ?_)
            have hx3b := hxb.ext hx3
            have z0 := hx3b.cell
            have z1 := hx3b.frozen
            have HX3 := Lib.hid (HUX.out.trans (hxw.trans hx3))
            clear hx3 hxw hxb hxa
            go_wp2_with fail
            refine gQ_normal ?_
            have hEB := hx3b.set (.int .i64 en)
            have hXE : Ext U (w3.setCell ⟨eb, 0, none⟩ (.int .i64 en)) := Ext.setCell HX3.out (show U.heap.size ≤ eb from HAS.out) _
            generalize w3.setCell ⟨eb, 0, none⟩ (.int .i64 en) = U1 at hEB hXE ⊢
            have HXE := Lib.hid hXE
            have HEB1 := Lib.hid hEB
            have q0 := (HIB.out.1.ext hXE).cell
            have q1 : U1.cell? ⟨pb, 0, none⟩ = _ := hXE.cell ((cell_blk HPK.out 0).trans rfl)
            have q2 := hEB.cell
            clear hEB hXE hx3b z0 z1
            by_cases hin : ((p + i : Nat) : Int) ≤ e ∧ e < (t : Nat)
            · obtain ⟨j, rfl⟩ : ∃ j : Nat, e = ((p + j : Nat) : Int) := ⟨e.toNat - p, by omega⟩
              have hpar : Wp.Par l p t := HPX.out
              have hpn := hpar.len
              have hwj : wrap64 (((p + j : Nat) : Int) - (p : Nat)) = (j : Nat) := by unfold wrap64; omega
              obtain rfl : ((j : Nat) : Int) = en := hwj.symm.trans hw
              have hij : i ≤ j := by omega
              have hjt : j < t - p := by omega
              have hd4 : decide (((j : Nat) : Int) < (i : Nat)) = false := decide_eq_false (by omega)
              have hd5 : decide (((t - p : Nat) : Int) ≤ (j : Nat)) = false := decide_eq_false (by omega)
              have hd6 : ¬ (((j : Nat) : Int) < (i : Nat)) := by omega
              have hd7 : ¬ (((t - p : Nat) : Int) ≤ (j : Nat)) := by omega
              have q3 := fun ob => ((Ext.refl U1).alloc ob).cell q0
              have HCK2 := HCC
              clear hw hwj HCC
              have hpk1 := HXE.out.blk HPK.out
              have n0 := fun ob => ((Ext.refl U1).alloc ob).cell ((cell_blk hpk1 0).trans rfl)
              have n1 := fun ob => ((Ext.refl U1).alloc ob).cell ((cell_blk hpk1 1).trans rfl)
              have n2 := fun ob => ((Ext.refl U1).alloc ob).cell ((cell_blk hpk1 2).trans rfl)
              have n3 := fun ob => ((Ext.refl U1).alloc ob).cell ((cell_blk hpk1 3).trans rfl)
              have n4 := fun ob => ((Ext.refl U1).alloc ob).cell ((cell_blk hpk1 4).trans rfl)
              have n5 := fun ob => ((Ext.refl U1).alloc ob).cell ((cell_blk hpk1 5).trans rfl)
              clear hpk1
              by_cases hec1 : ec' = 1
              · go_wp2_with fail
                clear n0 n1 n2 n3 n4 n5 q0 q1 q2 q3
                have hfb := Boxed.new U1 4 (.bool true)
                have hxf := (Ext.refl U1).alloc (.cells #[.bool true] 4)
                have hef := blk_lt HEB1.out
                generalize U1.alloc (.cells #[.bool true] 4) = U2 at hfb hxf ⊢
                obtain ⟨fb, hfbn⟩ : ∃ fb, U1.heap.size = fb := ⟨_, rfl⟩
                rw [hfbn] at hfb hef ⊢
                have hibl := HIB.out.1.lt
                have hsub : BxRow w (.slice (some ⟨g, o + p * 4, none⟩) (Wp.subB l p t).length (cap - p)) ((Wp.subB l p t).map bxI) := by
                  have h := BxRow.sub HROW.out (i := p) (j := t) (c := cap - p) (by omega) (by rw [List.length_map]; omega) (by omega)
                  rw [sub_map, ← hpn] at h
                  exact h
                have hisp := par_is hpar
                have hsmb := SmB.sub HSM.out p t
                have hfl := hpar.fit ⟨W, F, R⟩ i j (by omega) (by omega)
                have HLN := Lib.hid hpn
                have hxu := HXV.out.trans (HXE.out.trans hxf)
                obtain ⟨L, hLL⟩ : ∃ L, Wp.subB l p t = L := ⟨_, rfl⟩
                rw [hLL] at hsub hisp hsmb hfl HLN hpn
                have HLL := Lib.hid hLL
                clear hLL
                have hwB : w.heap.size = B := HB.out
                have hBs : B ≤ sb := HSN.out
                have hsp : sb < pb := HPB.out
                have hgp : gp < pb := HPO.out
                have hgs : sb + 1 ≤ gp := (HOP1.out.lt gp rfl).1
                have hpi : pb < ib := HIB.out.2
                have hie : ib < eb := by have := HAS.out; omega
                have hcb := fun j' (hj' : j' < L.length) => (cost_bd hisp hsmb (by omega) ⟨W, F, R⟩ HOK.out.2.1 HOK.out.2.2.1 HOK.out.2.2.2.1 (i := i) (j := j') (by omega) hj').1
                have key := c_sizes 32 #[.pointer (some ⟨eb, 0, none⟩), .pointer (some ⟨pb, 0, none⟩), .pointer (some ⟨ib, 0, none⟩), .pointer (some ⟨fb, 0, none⟩), .pointer (some ⟨sb, 0, none⟩)] L (some ⟨g, o + p * 4, none⟩) (cap - p) p W F R H i U2
                  (fun k V => k ≤ j ∧ CoI (fun V => V.ownsRow (sb + 1) 61 6 (.slice (some ⟨gp, 0, none⟩) O.length cp) O.length (pgW g o cap W F R H O)) (some ⟨g, o + p * 4, none⟩) (cap - p) p W F R H L i j pb ib eb fb sb true S w V)
                  (fun V => CoI (fun V => V.ownsRow (sb + 1) 61 6 (.slice (some ⟨gp, 0, none⟩) O.length cp) O.length (pgW g o cap W F R H O)) (some ⟨g, o + p * 4, none⟩) (cap - p) p W F R H L i j pb ib eb fb sb (Wp.fit ⟨W, F, R⟩ L i j) (S + Wp.cost ⟨W, F, R⟩ L i j) w V)
                  (enters_of Tryz.func32 (by kernel_rfl) rfl)
                  (fun _ _ h => h.2.row) (fun _ _ _ h hx => ⟨h.1, h.2.ext (fun _ _ h hx => ownsRow_ext h hx) hx⟩) hsmb (by omega)
                  (fun k V' h1 h2 h3 _ => (CoI.next (w0 := U2) (fun _ _ h hx => ownsRow_ext h hx) hisp hsmb (by omega) (by omega) HOK.out.2.1 HOK.out.2.2.1 HOK.out.2.2.2.1 (fun A v h => h.kept (grown_cell A fb 0 v) (.inr fun e => by have h9 : gp = fb := Option.some.inj e; omega)) (fun A v h => h.kept (grown_cell A sb 0 v) (.inr fun e => by have h9 : gp = sb := Option.some.inj e; omega)) hsub (by omega) ⟨by omega, hsp, hpi, hie, hef, blk_lt hfb⟩ ⟨hS0, by omega⟩ (fun j' hj' => by have := hcb j' hj'; omega) k V' h1 h2 h3.1 h3.2).mono (by
                    rintro e V'' ⟨rfl, g1, g2⟩
                    refine ⟨_, rfl, ?_, fun q => ?_, fun q => ?_⟩
                    · rcases Nat.lt_or_eq_of_le h3.1 with q | q
                      · exact Up.of_ext (g1 q).2
                      · exact (g2 q).2
                    · have q := of_decide_eq_true q
                      exact ⟨q, (g1 q).1⟩
                    · have q := of_decide_eq_false q
                      have hkj : k = j := by have := h3.1; omega
                      rw [hkj] at g2
                      exact (g2 rfl).1))
                  ⟨hij, ownsRow_ext HOP1.out (HXE.out.trans hxf), hsub.ext hxu, by rw [hpn]; exact (HXE.out.trans hxf).blk HPK.out, HIB.out.1.ext (HXE.out.trans hxf), HEB1.out.ext hxf, hfb, HSB1.out.ext (HXE.out.trans hxf), hxu⟩
                unfold pgV at key
                rw [hpn] at key
                refine key.mono ?_
                rintro e V3 ⟨⟨v, rfl⟩, hI⟩
                have hX := hI.resolve_left (fun q => by have := q.1; omega)
                clear hI key
                have hcl := hpar.cost ⟨W, F, R⟩ i j (by omega) (by omega)
                rw [HLL.out] at hcl
                have hlst : Wp.lst l (p + i) = t - 1 := by have h1 := hpar.lst' (i := i) (by omega); have h2 := hpar.lst (i := i) (by omega); omega
                have hcj := hcb j (by omega)
                have hcn := Wp.cost_nn ⟨W, F, R⟩ L i j
                have HST := Lib.hid (show Wp.costF ⟨W, F, R⟩ l (p + i) (((p + j : Nat) : Int) :: rs) = if Wp.fit ⟨W, F, R⟩ L i j = true then (Wp.costF ⟨W, F, R⟩ l (p + (j + 1)) rs).map (Wp.cost ⟨W, F, R⟩ L i j + ·) else none by
                  rw [Wp.costF, hlst, Int.toNat_natCast, hfl, hcl]
                  by_cases hq : Wp.fit ⟨W, F, R⟩ L i j = true
                  · rw [if_neg (by rw [hq]; simp; omega), if_pos hq]
                    rfl
                  · rw [if_pos (by simp at hq; simp [hq]), if_neg hq])
                generalize Wp.cost ⟨W, F, R⟩ L i j = cv at hX HST hcj hcn hcl
                generalize Wp.fit ⟨W, F, R⟩ L i j = ft at hX HST hfl
                have HX := Lib.hid hX
                have z0 := hX.hf.cell
                have z1 := hX.he.cell
                have z2 := hX.hi.cell
                have z3 := hX.hi.frozen
                clear hX hfl hcl hcb hfb hxf hsub hisp hsmb hxu
                have hjI : ((j : Nat) : Int) ≤ 64 := by omega
                cases ft
                · go_wp2_with fail
                  have h1 := HCK2.out
                  rw [HCF.out, HST.out] at h1
                  exact ret_two rfl rfl rfl rfl ⟨cost_ret h1.1 h1.2, HX.out.x⟩
                · go_wp2_with fail
                  have X := HX.out
                  have hgs := grown_cell V3 ib 0 (.int .i64 ((j : Nat) + 1))
                  have hb9 := Boxed.new (V3.setCell ⟨ib, 0, none⟩ (.int .i64 ((j : Nat) + 1))) 3 (.int .i64 ((j : Nat) + 1))
                  have hsz9 : (V3.setCell ⟨ib, 0, none⟩ (.int .i64 ((j : Nat) + 1))).heap.size = V3.heap.size := by simp
                  rw [hsz9] at hb9
                  have p9 := (hgs.block pb (blk_lt X.hp) (fun e => by have := Option.some.inj e; omega)).trans X.hp
                  rw [hpn] at p9
                  have x9 : Ext w (V3.setCell ⟨ib, 0, none⟩ (.int .i64 ((j : Nat) + 1))) := Ext.setCell X.x (show w.heap.size ≤ ib by omega) _
                  have o9 : (V3.setCell ⟨ib, 0, none⟩ (.int .i64 ((j : Nat) + 1))).ownsRow (sb + 1) 61 6 (.slice (some ⟨gp, 0, none⟩) O.length cp) O.length (pgW g o cap W F R H O) := X.k.kept hgs (.inr fun e => by have h9 : gp = ib := Option.some.inj e; omega)
                  have s9 := X.hs.other (show sb ≠ ib by omega) (.int .i64 ((j : Nat) + 1))
                  have hxz := (Ext.refl (V3.setCell ⟨ib, 0, none⟩ (.int .i64 ((j : Nat) + 1)))).alloc (.cells #[.int .i64 ((j : Nat) + 1)] 3)
                  have hrl2 : rs.length ≤ es.length := by simp at hrl; omega
                  refine ⟨⟨j + 1, _, rs, S + cv, rfl, by omega, hrl2, by omega, by omega, Lib.hid ⟨hb9, blk_lt X.hp⟩, Lib.hid ?_, Lib.hid (fun x hx => HRE.out x (by simp [hx])), Lib.hid (s9.ext hxz), Lib.hid (⟨_, _, rfl, by simp at hec'; omega, fun q => absurd (List.length_eq_zero_iff.1 (by simp at hec'; omega)) q⟩), Lib.hid (ownsRow_ext o9 hxz), Lib.hid (hxz.blk p9), Lib.hid (x9.trans hxz)⟩, ?_⟩
                  · rw [HCF.out, HST.out, if_pos trivial, Option.map_map]
                    congr 1
                    funext x
                    exact (Int.add_assoc S cv x).symm
                  · have e9 : boxNat (.pointer (some ⟨V3.heap.size, 0, none⟩)) ((V3.setCell ⟨ib, 0, none⟩ (.int .i64 ((j : Nat) + 1))).alloc (.cells #[.int .i64 ((j : Nat) + 1)] 3)) = j + 1 := boxNat_eq (n := j + 1) hb9
                    have e10 : boxNat (.pointer (some ⟨ib, 0, none⟩)) U = i := boxNat_eq HIB.out.1
                    rw [e10, e9]
                    omega
              · go_wp2_with fail
                clear n0 n1 n2 n3 n4 n5 q0 q1 q2 q3
                have hfb := Boxed.new U1 4 (.bool true)
                have hxf := (Ext.refl U1).alloc (.cells #[.bool true] 4)
                have hef := blk_lt HEB1.out
                generalize U1.alloc (.cells #[.bool true] 4) = U2 at hfb hxf ⊢
                obtain ⟨fb, hfbn⟩ : ∃ fb, U1.heap.size = fb := ⟨_, rfl⟩
                rw [hfbn] at hfb hef ⊢
                have hibl := HIB.out.1.lt
                have hsub : BxRow w (.slice (some ⟨g, o + p * 4, none⟩) (Wp.subB l p t).length (cap - p)) ((Wp.subB l p t).map bxI) := by
                  have h := BxRow.sub HROW.out (i := p) (j := t) (c := cap - p) (by omega) (by rw [List.length_map]; omega) (by omega)
                  rw [sub_map, ← hpn] at h
                  exact h
                have hisp := par_is hpar
                have hsmb := SmB.sub HSM.out p t
                have hfl := hpar.fit ⟨W, F, R⟩ i j (by omega) (by omega)
                have HLN := Lib.hid hpn
                have hxu := HXV.out.trans (HXE.out.trans hxf)
                obtain ⟨L, hLL⟩ : ∃ L, Wp.subB l p t = L := ⟨_, rfl⟩
                rw [hLL] at hsub hisp hsmb hfl HLN hpn
                have HLL := Lib.hid hLL
                clear hLL
                have hwB : w.heap.size = B := HB.out
                have hBs : B ≤ sb := HSN.out
                have hsp : sb < pb := HPB.out
                have hgp : gp < pb := HPO.out
                have hgs : sb + 1 ≤ gp := (HOP1.out.lt gp rfl).1
                have hpi : pb < ib := HIB.out.2
                have hie : ib < eb := by have := HAS.out; omega
                have hcb := fun j' (hj' : j' < L.length) => (cost_bd hisp hsmb (by omega) ⟨W, F, R⟩ HOK.out.2.1 HOK.out.2.2.1 HOK.out.2.2.2.1 (i := i) (j := j') (by omega) hj').1
                have key := c_sizes 32 #[.pointer (some ⟨eb, 0, none⟩), .pointer (some ⟨pb, 0, none⟩), .pointer (some ⟨ib, 0, none⟩), .pointer (some ⟨fb, 0, none⟩), .pointer (some ⟨sb, 0, none⟩)] L (some ⟨g, o + p * 4, none⟩) (cap - p) p W F R H i U2
                  (fun k V => k ≤ j ∧ CoI (fun V => V.ownsRow (sb + 1) 61 6 (.slice (some ⟨gp, 0, none⟩) O.length cp) O.length (pgW g o cap W F R H O)) (some ⟨g, o + p * 4, none⟩) (cap - p) p W F R H L i j pb ib eb fb sb true S w V)
                  (fun V => CoI (fun V => V.ownsRow (sb + 1) 61 6 (.slice (some ⟨gp, 0, none⟩) O.length cp) O.length (pgW g o cap W F R H O)) (some ⟨g, o + p * 4, none⟩) (cap - p) p W F R H L i j pb ib eb fb sb (Wp.fit ⟨W, F, R⟩ L i j) (S + Wp.cost ⟨W, F, R⟩ L i j) w V)
                  (enters_of Tryz.func32 (by kernel_rfl) rfl)
                  (fun _ _ h => h.2.row) (fun _ _ _ h hx => ⟨h.1, h.2.ext (fun _ _ h hx => ownsRow_ext h hx) hx⟩) hsmb (by omega)
                  (fun k V' h1 h2 h3 _ => (CoI.next (w0 := U2) (fun _ _ h hx => ownsRow_ext h hx) hisp hsmb (by omega) (by omega) HOK.out.2.1 HOK.out.2.2.1 HOK.out.2.2.2.1 (fun A v h => h.kept (grown_cell A fb 0 v) (.inr fun e => by have h9 : gp = fb := Option.some.inj e; omega)) (fun A v h => h.kept (grown_cell A sb 0 v) (.inr fun e => by have h9 : gp = sb := Option.some.inj e; omega)) hsub (by omega) ⟨by omega, hsp, hpi, hie, hef, blk_lt hfb⟩ ⟨hS0, by omega⟩ (fun j' hj' => by have := hcb j' hj'; omega) k V' h1 h2 h3.1 h3.2).mono (by
                    rintro e V'' ⟨rfl, g1, g2⟩
                    refine ⟨_, rfl, ?_, fun q => ?_, fun q => ?_⟩
                    · rcases Nat.lt_or_eq_of_le h3.1 with q | q
                      · exact Up.of_ext (g1 q).2
                      · exact (g2 q).2
                    · have q := of_decide_eq_true q
                      exact ⟨q, (g1 q).1⟩
                    · have q := of_decide_eq_false q
                      have hkj : k = j := by have := h3.1; omega
                      rw [hkj] at g2
                      exact (g2 rfl).1))
                  ⟨hij, ownsRow_ext HOP1.out (HXE.out.trans hxf), hsub.ext hxu, by rw [hpn]; exact (HXE.out.trans hxf).blk HPK.out, HIB.out.1.ext (HXE.out.trans hxf), HEB1.out.ext hxf, hfb, HSB1.out.ext (HXE.out.trans hxf), hxu⟩
                unfold pgV at key
                rw [hpn] at key
                refine key.mono ?_
                rintro e V3 ⟨⟨v, rfl⟩, hI⟩
                have hX := hI.resolve_left (fun q => by have := q.1; omega)
                clear hI key
                have hcl := hpar.cost ⟨W, F, R⟩ i j (by omega) (by omega)
                rw [HLL.out] at hcl
                have hlst : Wp.lst l (p + i) = t - 1 := by have h1 := hpar.lst' (i := i) (by omega); have h2 := hpar.lst (i := i) (by omega); omega
                have hcj := hcb j (by omega)
                have hcn := Wp.cost_nn ⟨W, F, R⟩ L i j
                have HST := Lib.hid (show Wp.costF ⟨W, F, R⟩ l (p + i) (((p + j : Nat) : Int) :: rs) = if Wp.fit ⟨W, F, R⟩ L i j = true then (Wp.costF ⟨W, F, R⟩ l (p + (j + 1)) rs).map (Wp.cost ⟨W, F, R⟩ L i j + ·) else none by
                  rw [Wp.costF, hlst, Int.toNat_natCast, hfl, hcl]
                  by_cases hq : Wp.fit ⟨W, F, R⟩ L i j = true
                  · rw [if_neg (by rw [hq]; simp; omega), if_pos hq]
                    rfl
                  · rw [if_pos (by simp at hq; simp [hq]), if_neg hq])
                generalize Wp.cost ⟨W, F, R⟩ L i j = cv at hX HST hcj hcn hcl
                generalize Wp.fit ⟨W, F, R⟩ L i j = ft at hX HST hfl
                have HX := Lib.hid hX
                have z0 := hX.hf.cell
                have z1 := hX.he.cell
                have z2 := hX.hi.cell
                have z3 := hX.hi.frozen
                clear hX hfl hcl hcb hfb hxf hsub hisp hsmb hxu
                have hjI : ((j : Nat) : Int) ≤ 64 := by omega
                cases ft
                · go_wp2_with fail
                  have h1 := HCK2.out
                  rw [HCF.out, HST.out] at h1
                  exact ret_two rfl rfl rfl rfl ⟨cost_ret h1.1 h1.2, HX.out.x⟩
                · go_wp2_with fail
                  have X := HX.out
                  have hgs := grown_cell V3 ib 0 (.int .i64 ((j : Nat) + 1))
                  have hb9 := Boxed.new (V3.setCell ⟨ib, 0, none⟩ (.int .i64 ((j : Nat) + 1))) 3 (.int .i64 ((j : Nat) + 1))
                  have hsz9 : (V3.setCell ⟨ib, 0, none⟩ (.int .i64 ((j : Nat) + 1))).heap.size = V3.heap.size := by simp
                  rw [hsz9] at hb9
                  have p9 := (hgs.block pb (blk_lt X.hp) (fun e => by have := Option.some.inj e; omega)).trans X.hp
                  rw [hpn] at p9
                  have x9 : Ext w (V3.setCell ⟨ib, 0, none⟩ (.int .i64 ((j : Nat) + 1))) := Ext.setCell X.x (show w.heap.size ≤ ib by omega) _
                  have o9 : (V3.setCell ⟨ib, 0, none⟩ (.int .i64 ((j : Nat) + 1))).ownsRow (sb + 1) 61 6 (.slice (some ⟨gp, 0, none⟩) O.length cp) O.length (pgW g o cap W F R H O) := X.k.kept hgs (.inr fun e => by have h9 : gp = ib := Option.some.inj e; omega)
                  have s9 := X.hs.other (show sb ≠ ib by omega) (.int .i64 ((j : Nat) + 1))
                  have hxz := (Ext.refl (V3.setCell ⟨ib, 0, none⟩ (.int .i64 ((j : Nat) + 1)))).alloc (.cells #[.int .i64 ((j : Nat) + 1)] 3)
                  have hrl2 : rs.length ≤ es.length := by simp at hrl; omega
                  refine ⟨⟨j + 1, _, rs, S + cv, rfl, by omega, hrl2, by omega, by omega, Lib.hid ⟨hb9, blk_lt X.hp⟩, Lib.hid ?_, Lib.hid (fun x hx => HRE.out x (by simp [hx])), Lib.hid (s9.ext hxz), Lib.hid (IRow.tail HRS.out), Lib.hid (ownsRow_ext o9 hxz), Lib.hid (hxz.blk p9), Lib.hid (x9.trans hxz)⟩, ?_⟩
                  · rw [HCF.out, HST.out, if_pos trivial, Option.map_map]
                    congr 1
                    funext x
                    exact (Int.add_assoc S cv x).symm
                  · have e9 : boxNat (.pointer (some ⟨V3.heap.size, 0, none⟩)) ((V3.setCell ⟨ib, 0, none⟩ (.int .i64 ((j : Nat) + 1))).alloc (.cells #[.int .i64 ((j : Nat) + 1)] 3)) = j + 1 := boxNat_eq (n := j + 1) hb9
                    have e10 : boxNat (.pointer (some ⟨ib, 0, none⟩)) U = i := boxNat_eq HIB.out.1
                    rw [e10, e9]
                    omega
            · have hout : en < (i : Nat) ∨ ((t - p : Nat) : Int) ≤ en := by
                rw [← hw]
                unfold wrap64
                omega
              have hpar : Wp.Par l p t := HPX.out
              have hlst : Wp.lst l (p + i) = t - 1 := by have h1 := hpar.lst' (i := i) (by omega); have h2 := hpar.lst (i := i) (by omega); omega
              have HNO := Lib.hid (show Wp.costF ⟨W, F, R⟩ l (p + i) (e :: rs) = none by
                rw [Wp.costF, if_pos]
                rw [hlst]
                omega)
              by_cases hlo : en < (i : Nat)
              · have hd4 : decide (en < (i : Nat)) = true := decide_eq_true hlo
                go_wp2_with fail
                all_goals
                  have h1 := HCC.out
                  rw [HCF.out, HNO.out] at h1
                  exact ret_two rfl rfl rfl rfl ⟨cost_ret h1.1 h1.2, HXV.out.trans HXE.out⟩
              · have hd4 : decide (en < (i : Nat)) = false := decide_eq_false hlo
                have hhi := hout.resolve_left hlo
                have hd5 : decide (((t - p : Nat) : Int) ≤ en) = true := decide_eq_true hhi
                go_wp2_with fail
                all_goals
                  have h1 := HCC.out
                  rw [HCF.out, HNO.out] at h1
                  exact ret_two rfl rfl rfl rfl ⟨cost_ret h1.1 h1.2, HXV.out.trans HXE.out⟩
        · have hI2 : ¬ ((i : Nat) : Int) < ((t - p : Nat) : Int) := by omega
          have hd3 : decide (i < t - p) = false := decide_eq_false hil2
          clear hrow'
          have hti : p + i = t := by omega
          rw [hti] at HCF hS1
          go_wp2_with fail
          exact ⟨⟨k + 1, t, rs, S, by simp, by omega, hpt.2, hrl, hS0, hS1, HD1, Lib.hid (fun q => by rw [← HT.out] at q ⊢; exact Wp.start_next l q), HCF, HRE, HSB1, HRS, HOP1, HXV⟩, by simp only [intOf]; omega⟩
    · have hI : ¬ ((k : Nat) : Int) < (O.length : Nat) := by omega
      have hd : decide (k < O.length) = false := decide_eq_false hil
      have HPE := Lib.hid (show p = l.length by
        have := HDR.out
        rw [List.drop_eq_nil_of_le (by omega)] at this
        exact pars_nil hp this.symm)
      have z0 := HSB1.out.cell
      by_cases hr0 : rs = []
      · subst hr0
        go_wp2_with fail
        have h1 := HCC.out
        rw [HCF.out, HPE.out, Wp.costF, if_pos rfl] at h1
        simp at h1
        exact ret_two rfl rfl rfl rfl ⟨cost_ret h1.1 h1.2.symm, HXV.out⟩
      · have hr1 : 0 < rs.length := List.length_pos_iff.2 hr0
        have hr2 : (0 : Int) < (rs.length : Nat) := by omega
        have hd2 : decide ((0 : Int) < (rs.length : Nat)) = true := decide_eq_true hr2
        go_wp2_with fail
        have h1 := HCC.out
        rw [HCF.out, HPE.out, costF_full _ _ _ hr0] at h1
        exact ret_two rfl rfl rfl rfl ⟨cost_ret h1.1 h1.2, HXV.out⟩
end Go.Proofs.YtlmkbldiicbejaaGreatDoor
end
