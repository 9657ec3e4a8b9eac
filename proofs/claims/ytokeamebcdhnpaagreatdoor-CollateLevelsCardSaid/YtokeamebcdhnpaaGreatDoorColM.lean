/-
 How two texts compare.
-/
import Derived.Test.YtokeamebcdhnpaaGreatDoorColK
import Derived.Lib.BytesEntry
import Derived.Laws.Externs
namespace Go.Proofs.YtokeamebcdhnpaaGreatDoor
open Go.RowKit Go.Rp Go.Shelf Go.Maps Go.Cl

def cmpF (K L : List UInt8) : Int :=
 match (List.range (min K.length L.length)).find? fun i => K.getD i 0 != L.getD i 0 with
 | some i => if K.getD i 0 < L.getD i 0 then -1 else 1
 | none => if K.length < L.length then -1 else if K.length > L.length then 1 else 0
theorem cmpF_eq (K : List UInt8) : ∀ L, cmpF K L = cmpB K L := by
 induction K with
 | nil =>
  intro L
  cases L with
  | nil => rfl
  | cons b L => simp [cmpF, cmpB]
 | cons a K ih =>
  intro L
  cases L with
  | nil => simp [cmpF, cmpB]
  | cons b L =>
   have h1 := ih L
   unfold cmpF at h1 ⊢
   have hr : List.range (min (a :: K).length (b :: L).length) = 0 :: (List.range (min K.length L.length)).map Nat.succ := by
    rw [← List.range_succ_eq_map]
    congr 1
    simp only [List.length_cons]
    omega
   rw [hr, List.find?_cons]
   by_cases hab : a = b
   ·subst hab
    have h0 : ((a :: K).getD 0 0 != (a :: L).getD 0 0) = false := by simp
    have hn : ¬ a < a := UInt8.lt_irrefl a
    rw [h0, cmpB, if_neg hn, if_neg hn, ← h1, List.find?_map]
    have hp : ((fun i => (a :: K).getD i 0 != (a :: L).getD i 0) ∘ Nat.succ) = fun i => K.getD i 0 != L.getD i 0 := by
     funext i
     simp
    rw [hp]
    cases (List.range (min K.length L.length)).find? fun i => K.getD i 0 != L.getD i 0 with
    | some i => simp
    | none => simp
   ·have h0 : ((a :: K).getD 0 0 != (b :: L).getD 0 0) = true := by simp [hab]
    rw [h0]
    show (if a < b then (-1 : Int) else 1) = _
    rw [cmpB]
    rcases u8_tri a b with h | h | h
    ·rw [if_pos h, if_pos h]
    ·exact absurd h hab
    ·rw [if_neg (u8_asym h), if_neg (u8_asym h), if_pos h]
theorem cmp_eq (K L : List UInt8) : Extern.BytealgCompare.cmp ⟨K.toArray⟩ ⟨L.toArray⟩ = cmpB K L := by
 rw [← cmpF_eq]
 unfold Extern.BytealgCompare.cmp cmpF
 have hk : (⟨K.toArray⟩ : ByteArray).size = K.length := by rw [← len_eqC]
 have hl : (⟨L.toArray⟩ : ByteArray).size = L.length := by rw [← len_eqC]
 have hg : ∀ (M : List UInt8) (i : Nat), (⟨M.toArray⟩ : ByteArray)[i]! = M.getD i 0 := fun M i => by
  by_cases hi : i < M.length
  ·have h1 : i < (⟨M.toArray⟩ : ByteArray).size := by rw [← len_eqC]; exact hi
   rw [getElem!_pos (⟨M.toArray⟩ : ByteArray) i h1, List.getD_eq_getElem?_getD, List.getElem?_eq_getElem hi]
   rfl
  ·have h1 : ¬ i < (⟨M.toArray⟩ : ByteArray).size := by rw [← len_eqC]; exact hi
   rw [getElem!_neg (⟨M.toArray⟩ : ByteArray) i h1, List.getD_eq_getElem?_getD, List.getElem?_eq_none (by omega)]
   rfl
 rw [hk, hl]
 simp only [hg]
 cases (List.range (min K.length L.length)).find? fun i => K.getD i 0 != L.getD i 0 <;> rfl
theorem run_bytesH {P : Program} {w : World} {u : Value} {K : List UInt8} (h : Lib.HoldsBytes w u K) : (Extern.Bytes.bytesOf u).run P w = .ok ⟨K.toArray⟩ w := by
 obtain ⟨p, cap, rfl, h0, h1⟩ := h
 cases p with
 | none =>
  obtain rfl := h0 rfl
  rfl
 | some a =>
  have hl := Lib.run_loadBytesX (P := P) w (K.map fun x => (x.toNat : Int)) a .empty (fun j x hj => by
   rw [List.getElem?_map] at hj
   cases hk : K[j]? with
   | none => rw [hk] at hj; cases hj
   | some c =>
    rw [hk] at hj
    obtain rfl := Option.some.inj hj
    exact h1 a rfl j c hk)
  rw [List.length_map] at hl
  have hb : Lib.bytesOf (K.map fun x => (x.toNat : Int)) = K := Lib.bytesOf_numsL K
  rw [hb] at hl
  have he : (⟨ByteArray.empty.data ++ K.toArray⟩ : ByteArray) = ⟨K.toArray⟩ := by
   apply ByteArray.ext
   show (#[] : Array UInt8) ++ K.toArray = K.toArray
   simp
  rw [he] at hl
  exact hl
theorem run_bcmp {P : Program} {w : World} {u v : Value} {K L : List UInt8} (hu : Lib.HoldsBytes w u K) (hv : Lib.HoldsBytes w v L) : (Extern.BytealgCompare.compare #[u, v]).run P w = .ok (.int .i64 (cmpB K L)) w := by
 show Sem.run P (do pure (goInt (Extern.BytealgCompare.cmp (← Extern.Bytes.bytesOf u) (← Extern.Bytes.bytesOf v)))) w = _
 simp only [Sem.run_bind, Sem.run_pure, run_bytesH hu, run_bytesH hv, Result.andThen, cmp_eq]
 rfl
theorem cmpB_bounds (K L : List UInt8) : -1 ≤ cmpB K L ∧ cmpB K L ≤ 1 := by
 rcases cmpB_vals K L with h | h | h <;> omega
set_option maxRecDepth 100000 in
set_option maxHeartbeats 4000000 in
theorem c_bCmp (u v : Value) (K L : List UInt8) (w : World) (hu : Lib.HoldsBytes w u K) (hv : Lib.HoldsBytes w v L) :
  Calls Tryz.prog 43 #[u, v] w fun e w' => e = .returned (.int .i64 (cmpB K L)) ∧ w' = w := by
 have HU := Lib.hid hu
 have HV := Lib.hid hv
 obtain ⟨p, cp, rfl, _⟩ := hu
 obtain ⟨q, cq, rfl, _⟩ := hv
 go_enter Tryz.func43, Tryz.ntmps43
 go_wp2_with fail
 rw [run_callFunc_extern Tryz.func60 (by kernel_rfl) (by kernel_rfl) (by kernel_rfl) (e := Extern.BytealgCompare.compare) (by kernel_rfl), run_bcmp HU.out HV.out]
 simp only [Result.andThen]
 rw [Oper.upon_value]
 go_wp2_with fail
 exact ret_one rfl rfl rfl ⟨rfl, rfl⟩
theorem holds_ext {w w' : World} {v : Value} {K : List UInt8} (h : Lib.HoldsBytes w v K) (hx : Ext w w') : Lib.HoldsBytes w' v K := by
 obtain ⟨p, cap, e, h1, h2⟩ := h
 exact ⟨p, cap, e, h1, fun a ha i x hi => hx.cell (h2 a ha i x hi)⟩
/-- A text's key. -/
noncomputable def keyT (o : Ord) (s : ByteArray) : List UInt8 := keyL bookP (mostC bookP) o (formT 0 s.data.toList)
set_option maxRecDepth 100000 in
set_option maxHeartbeats 4000000 in
theorem c_Compare (a b : ByteArray) (o : Ord) (w : World) (hT : TabsC w) (ha : a.size ≤ 200) (hb : b.size ≤ 200) :
  Calls Tryz.prog 18 #[.string a, .string b, ordV o] w fun e w' => e = .returned (.int .i64 (cmpB (keyT o a) (keyT o b))) ∧ Ext w w' := by
 have HA := Lib.hid (fun w hT => c_Key a o w hT ha)
 have HB := Lib.hid (fun w hT => c_Key b o w hT hb)
 go_enter Tryz.func18, Tryz.ntmps18
 go_wp2_with fail
 have hx0 := (Ext.refl w).alloc (.cells #[.int .i64 o.level, .bool o.shift, .bool o.back, .bool o.great] 24)
 have hb0 := World.alloc_heap_new w (.cells #[.int .i64 o.level, .bool o.shift, .bool o.back, .bool o.great] 24)
 generalize w.alloc (.cells #[.int .i64 o.level, .bool o.shift, .bool o.back, .bool o.great] 24) = W0 at hx0 hb0 ⊢
 generalize w.heap.size = ob at hb0 ⊢
 have q0 : ∀ w', EOn (fun _ => True) W0 w' → w'.cell? ⟨ob, 0, none⟩ = some (.int .i64 o.level) := fun w' hx => hx.cell trivial ((cell_blk hb0 0).trans rfl)
 have q1 : ∀ w', EOn (fun _ => True) W0 w' → w'.cell? ⟨ob, 1, none⟩ = some (.bool o.shift) := fun w' hx => hx.cell trivial ((cell_blk hb0 1).trans rfl)
 have q2 : ∀ w', EOn (fun _ => True) W0 w' → w'.cell? ⟨ob, 2, none⟩ = some (.bool o.back) := fun w' hx => hx.cell trivial ((cell_blk hb0 2).trans rfl)
 have q3 : ∀ w', EOn (fun _ => True) W0 w' → w'.cell? ⟨ob, 3, none⟩ = some (.bool o.great) := fun w' hx => hx.cell trivial ((cell_blk hb0 3).trans rfl)
 have HX0 := Lib.hid hx0
 clear hx0 hb0
 refine wp_perm (fun _ => True) [0, 1, 3, 4, 2, 5, 6, 7] [true, true, true, true, false, false, false] (by kernel_rfl) (by kernel_rfl) (by simp only [List.map_cons, List.map_nil, nth]; rfl) ?_
 repeat first
  | refine wpG_move' ?_
  | refine wpG_assign' ?_
  | refine wpG_val' ?_
  | refine wpG_no' ?_
 clear q0 q1 q2 q3
 refine wpG_do (by rfl) (fun w1 hx1 K hK => ?_)
 go_wp2_with fail
 refine (HA.out w1 (hT.ext (HX0.out.trans hx1))).mono ?_
 rintro e w2 ⟨va, rfl, ⟨hka, _⟩, hx2⟩
 refine hK _ _ ⟨EOn.of_ext hx2, ?_⟩
 clear hK
 refine wpG_do (by rfl) (fun w3 hx3 K hK => ?_)
 go_wp2_with fail
 have hx03 := HX0.out.trans (hx1.trans (hx2.trans hx3))
 refine (HB.out w3 (hT.ext hx03)).mono ?_
 rintro e w4 ⟨vb, rfl, ⟨hkb, _⟩, hx4⟩
 refine hK _ _ ⟨EOn.of_ext hx4, ?_⟩
 clear hK
 refine wpG_do (by rfl) (fun w5 hx5 K hK => ?_)
 have HP := Lib.hid (And.intro (holds_ext hka (hx3.trans (hx4.trans hx5))) (And.intro (holds_ext hkb hx5) (hx03.trans (hx4.trans hx5))))
 clear hka hkb hx1 hx2 hx3 hx4 hx5 hx03
 go_wp2_with fail
 refine (c_bCmp va vb _ _ w5 HP.out.1 HP.out.2.1).mono ?_
 rintro e w6 ⟨rfl, e6⟩
 obtain rfl := e6.symm
 clear e6
 refine hK _ _ ⟨EOn.refl _ _, ?_⟩
 clear hK
 refine wpG_end (fun w7 hx7 => ?_)
 have HX7 := Lib.hid (HP.out.2.2.trans hx7)
 clear hx7
 go_wp2_with fail
 refine gQ_normal ?_
 go_wp2_with fail
 exact ret_one rfl rfl rfl ⟨rfl, HX7.out⟩
end Go.Proofs.YtokeamebcdhnpaaGreatDoor
