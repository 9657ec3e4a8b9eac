/-
  Ranges put in order by the library. The normal form of ranges.
-/
import Derived.Shelf.SlSortCmp.WholeK
import Derived.Shelf.SlSortCmp.NoneTotal
import Derived.Lib.OwnBridge
import Derived.Test.YtlmkbldiicbejaaGreatDoorPrD
section
namespace Go.Proofs.YtlmkbldiicbejaaGreatDoor
open Go.RowKit Go.Rp Go.Maps Go.Cl Go.Shelf

theorem grownBy_sortK {α : Type} [Inhabited α] (enc : α → List Value) (k : Nat) {w : World} {g m : Nat} {os : Array Obj} (d : Array α) : w.grownBy (Go.Proofs.sortWorldK enc k w g 0 m d os) (some g) := by
  unfold sortWorldK Sort.putRowK
  refine ⟨rfl, rfl, rfl, by simp, fun j hj hne => ?_⟩
  rw [Sort.heap_grow_old _ _ (by simpa using hj)]
  have : g ≠ j := fun e => hne (by rw [e])
  simp [Sort.putRow, Go.Sort.mapBlock, Sort.ahead, Array.getElem?_modify, this]
theorem holdsK_of_own {α : Type} [Inhabited α] (enc : α → List Value) (k : Nat) (h0 : 0 < k) (hk : ∀ x, (enc x).length = k) {w : World} {B g cap : Nat} {T : TypeId} {l : List α} (h : w.ownsRow B T k (.slice (some ⟨g, 0, none⟩) l.length cap) l.length (l.flatMap enc)) : Sort.HoldsK enc k w g 0 l.toArray := by
  intro t ht
  rw [Sort.size_flatK] at ht
  have ht' : t < l.length * k := by simpa using ht
  rw [Sort.get_flatK enc k _ t ht, Nat.zero_add]
  have hi : t / k < l.length := Nat.div_lt_of_lt_mul (by rw [Nat.mul_comm]; exact ht')
  refine ⟨?_, h.frozenAt t⟩
  rw [h.cellAt t ht']
  have e : (l.toArray)[t / k]! = l[t / k] := by simp [hi]
  rw [e]
  have key : ∀ (l : List α) (j i : Nat) (hj : j < l.length), i < k → (l.flatMap enc)[j * k + i]? = (enc l[j])[i]? := by
    intro l
    induction l with
    | nil => intro j i hj; cases hj
    | cons x l ih =>
      intro j i hj hik
      rw [List.flatMap_cons]
      cases j with
      | zero => rw [Nat.zero_mul, Nat.zero_add, List.getElem?_append_left (by rw [hk]; exact hik)]; rfl
      | succ j =>
        rw [List.getElem?_append_right (by rw [hk, Nat.add_mul]; omega), hk, show (j + 1) * k + i - k = j * k + i by rw [Nat.add_mul]; omega]
        exact ih j i (by simpa using hj) hik
  have h1 := key l (t / k) (t % k) hi (Nat.mod_lt _ h0)
  rw [show t / k * k + t % k = t by rw [Nat.mul_comm]; exact Nat.div_add_mod t k] at h1
  rw [h1]
  have h2 : t % k < (enc l[t / k]).length := by rw [hk]; exact Nat.mod_lt _ h0
  rw [List.getElem?_eq_getElem h2]
  simp [h2]
theorem cellK_of_holds {α : Type} [Inhabited α] (enc : α → List Value) (k : Nat) (hk : ∀ x, (enc x).length = k) {w : World} {g : Nat} {d : Array α} (h : Sort.HoldsK enc k w g 0 d) (i j : Nat) (hi : i < d.size) (hj : j < k) : w.cell? ⟨g, i * k + j, none⟩ = (enc d[i])[j]? := by
  have h0 : 0 < k := by omega
  have h1 := (h (i * k + j) (by
    rw [Sort.size_flatK]
    calc i * k + j < i * k + k := by omega
      _ = (i + 1) * k := by rw [Nat.add_mul]; omega
      _ ≤ d.size * k := Nat.mul_le_mul_right _ hi)).1
  rw [Sort.get_flatK enc k d (i * k + j) (by
    calc i * k + j < i * k + k := by omega
      _ = (i + 1) * k := by rw [Nat.add_mul]; omega
      _ ≤ d.size * k := Nat.mul_le_mul_right _ hi), Nat.zero_add, show (i * k + j) / k = i by rw [Nat.mul_comm, Nat.mul_add_div h0, Nat.div_eq_of_lt hj]; rfl, show (i * k + j) % k = j by rw [Nat.mul_comm, Nat.mul_add_mod, Nat.mod_eq_of_lt hj]] at h1
  have e : d[i]! = d[i] := by simp [hi]
  rw [e] at h1
  have h2 : j < (enc d[i]).length := by rw [hk]; exact hj
  rw [h1, List.getElem?_eq_getElem h2]
  simp [h2]
set_option maxRecDepth 100000 in
set_option maxHeartbeats 4000000 in
theorem c_isNaN (x : Int) (w : World) : Calls Tryz.prog 89 #[.int .i32 x] w fun e w' => e = .returned (.bool false) ∧ w' = w := by
  go_enter Tryz.func89, Tryz.ntmps89
  go_wp2_with fail
  go_ret
  exact ⟨rfl, rfl⟩
/-- Which comes first. -/
def cmpI (x y : Int) : Int := if x < y then -1 else if y < x then 1 else 0
set_option maxRecDepth 100000 in
set_option maxHeartbeats 4000000 in
theorem c_Compare (x y : Int) (w : World) : Calls Tryz.prog 67 #[.int .i32 x, .int .i32 y] w fun e w' => e = .returned (.int .i64 (cmpI x y)) ∧ w' = w := by
  obtain ⟨r, hr⟩ : ∃ r, cmpI x y = r := ⟨_, rfl⟩
  have HR := Lib.hid hr
  rw [hr]
  clear hr
  go_enter Tryz.func67, Tryz.ntmps67
  go_wp2_with fail
  refine (c_isNaN x w).mono ?_
  rintro e w1 ⟨rfl, rfl⟩
  go_wp2_with fail
  refine (c_isNaN y w1).mono ?_
  rintro e w1 ⟨rfl, rfl⟩
  by_cases h1 : x < y
  · have d1 : decide (x < y) = true := decide_eq_true h1
    go_wp2_with fail
    go_ret
    exact ⟨by rw [← HR.out, cmpI, if_pos h1]; rfl, rfl⟩
  · have d1 : decide (x < y) = false := decide_eq_false h1
    by_cases h2 : y < x
    · have d2 : decide (y < x) = true := decide_eq_true h2
      go_wp2_with fail
      go_ret
      exact ⟨by rw [← HR.out, cmpI, if_neg (by omega), if_pos (by omega)]; rfl, rfl⟩
    · have d2 : decide (y < x) = false := decide_eq_false h2
      go_wp2_with fail
      go_ret
      exact ⟨by rw [← HR.out, cmpI, if_neg (by omega), if_neg (by omega)]; rfl, rfl⟩
/-- The cells of a range. -/
def kM (n : Nat) : Nat := n % 1114112
theorem kM_lt (n : Nat) : kM n < 1114112 := Nat.mod_lt _ (by decide)
theorem kM_of {n : Nat} (h : n ≤ 1114111) : kM n = n := Nat.mod_eq_of_lt (by omega)
def rgE (x : Nat × Nat) : List Value := [.int .i32 (kM x.1 : Nat), .int .i32 (x.2 : Nat)]
def rdE (x : Nat × Nat × Nat) : List Value := [.int .i32 (kM x.1 : Nat), .int .i32 (x.2.1 : Nat), .int .i64 (x.2.2 : Nat)]
theorem srtK_congr {α : Type} {f g : α → Nat} : ∀ {l : List α}, (∀ x ∈ l, f x = g x) → srtK f l = srtK g l
  | [], _ => rfl
  | x :: l, h => by
    have ih := srtK_congr (fun y hy => h y (List.mem_cons_of_mem _ hy))
    have key : ∀ (m : List α), (∀ y ∈ m, f y = g y) → insK f x m = insK g x m := by
      intro m
      induction m with
      | nil => intro _; rfl
      | cons y m ihm =>
        intro hm
        rw [insK, insK, h x (List.mem_cons_self ..), hm y (List.mem_cons_self ..), ihm (fun z hz => hm z (List.mem_cons_of_mem _ hz))]
    rw [srtK, srtK, ih, key _ (fun y hy => h y (List.mem_cons_of_mem _ ((srtK_mem _ _ _).1 hy)))]
def rdV (x : Nat × Nat × Nat) : List Value := [.int .i32 (x.1 : Nat), .int .i32 (x.2.1 : Nat), .int .i64 (x.2.2 : Nat)]
def rdW (l : List (Nat × Nat × Nat)) : List Value := l.flatMap rdV
def rgV (x : Nat × Nat) : List Value := [.int .i32 (x.1 : Nat), .int .i32 (x.2 : Nat)]
def subI (x y : Nat) : Int := (x : Nat) - (y : Nat)
def cmpN (x y : Nat) : Int := cmpI (x : Nat) (y : Nat)
set_option maxRecDepth 100000 in
set_option maxHeartbeats 4000000 in
theorem c_befR (x y : (Nat × Nat)) (w : World) : Calls Tryz.prog 126 #[.agg #[.int .i32 (kM x.1 : Nat), .int .i32 (x.2 : Nat)], .agg #[.int .i32 (kM y.1 : Nat), .int .i32 (y.2 : Nat)]] w fun e w' => e = .returned (.int .i64 (subI (kM x.1) (kM y.1))) ∧ w' = (w.alloc (.cells #[.int .i32 (kM x.1 : Nat), .int .i32 (x.2 : Nat)] 139)).alloc (.cells #[.int .i32 (kM y.1 : Nat), .int .i32 (y.2 : Nat)] 139) := by
  have hx := kM_lt x.1
  have hy := kM_lt y.1
  generalize kM x.1 = p at hx ⊢
  generalize kM y.1 = q at hy ⊢
  have hpI : ((p : Nat) : Int) < 1114112 := by omega
  have hqI : ((q : Nat) : Int) < 1114112 := by omega
  clear hx hy
  have b1 := World.alloc_heap_new w (.cells #[.int .i32 (p : Nat), .int .i32 (x.2 : Nat)] 139)
  have b2 := World.alloc_heap_new (w.alloc (.cells #[.int .i32 (p : Nat), .int .i32 (x.2 : Nat)] 139)) (.cells #[.int .i32 (q : Nat), .int .i32 (y.2 : Nat)] 139)
  rw [World.size_alloc] at b2
  have b3 := ((Ext.refl (w.alloc (.cells #[.int .i32 (p : Nat), .int .i32 (x.2 : Nat)] 139))).alloc (.cells #[.int .i32 (q : Nat), .int .i32 (y.2 : Nat)] 139)).blk b1
  have k1 := cell_blk b3 0
  have k2 := cell_blk b2 0
  simp only [List.getElem?_toArray, List.getElem?_cons_zero] at k1 k2
  clear b1 b2 b3
  go_enter Tryz.func126, Tryz.ntmps126
  go_wp2_with fail
  exact ret_one rfl rfl rfl ⟨rfl, rfl⟩
theorem lt_R (x y : (Nat × Nat)) : ltOf (fun x y : (Nat × Nat) => subI (kM x.1) (kM y.1)) x y = decide (kM x.1 < kM y.1) := by
  unfold ltOf subI
  by_cases h : kM x.1 < kM y.1 <;> simp [h] <;> omega
theorem swo_R : Sort.SWO (ltOf fun x y : (Nat × Nat) => subI (kM x.1) (kM y.1)) where
  irrefl x := by rw [lt_R]; simp
  trans x y z h1 h2 := by rw [lt_R] at *; simp at *; omega
  ntrans x y z h1 h2 := by rw [lt_R] at *; simp at *; omega
theorem lays_R (blk off size : Nat) (w : World) : CmpLays Tryz.prog 126 #[] rgE 2 (fun x y => subI (kM x.1) (kM y.1)) blk off size w :=
  fun _ _ _ _ x y => (c_befR x y _).mono fun _ _ ⟨he, hw⟩ => ⟨he, 0, #[.cells #[.int .i32 (kM x.1 : Nat), .int .i32 (x.2 : Nat)] 139] ++ #[.cells #[.int .i32 (kM y.1 : Nat), .int .i32 (y.2 : Nat)] 139], hw.trans (by rw [Sort.alloc_eq_grow, Sort.alloc_eq_grow, Sort.grow_grow]; rfl)⟩
theorem c_SortR (B g cap : Nat) (l : List (Nat × Nat)) (w : World) (h0 : w.ownsRow B 139 2 (.slice (some ⟨g, 0, none⟩) l.length cap) l.length (l.flatMap rgV)) (hl : l.length ≤ 2000000) (hn : (l.map fun x => x.1).Nodup) (hb : ∀ x ∈ l, x.1 ≤ 1114111) :
    Calls Tryz.prog 125 #[.slice (some ⟨g, 0, none⟩) l.length cap, .func (.func 126) #[] #[]] w fun e w' => e = .returned (.tuple #[]) ∧ w.grownBy w' (some g) ∧
      ∀ i (h : i < (srtK (fun x => x.1) l).length) (j : Nat), j < 2 → w'.cell? ⟨g, i * 2 + j, none⟩ = (rgV (srtK (fun x => x.1) l)[i])[j]? := by
  have he0 : l.flatMap rgV = l.flatMap rgE := by
    rw [List.flatMap_def, List.flatMap_def]
    exact congrArg List.flatten (List.map_congr_left fun x hx => by simp only [rgV, rgE, kM_of (hb x hx)])
  have h := h0
  rw [he0] at h
  have hH := holdsK_of_own rgE 2 (by decide) (fun _ => rfl) h
  obtain ⟨hg, hgl⟩ := h.lt g rfl
  have eg : ∀ args w, (callFunc 126 args).run Tryz.prog w = .ok (.enter 126 args) w := enters_of Tryz.func126 (by kernel_rfl) rfl
  refine (AnyQ.slices_SortFunc Tryz.sortR 2 Tryz.isAgg139 Tryz.sizeOf139 rgE (fun _ => rfl) (fun x v hv => by simp [rgE] at hv; rcases hv with rfl | rfl <;> rfl) (fun x y => subI (kM x.1) (kM y.1)) swo_R 126 #[] g 0 cap l.toArray w eg (lays_R g 0 l.toArray.size w) hH hgl (by simp; omega)).mono ?_
  rintro e w' ⟨rfl, d', m, os, ⟨hp1, hp2, hp3⟩, hs, rfl⟩
  refine ⟨rfl, grownBy_sortK rgE 2 d', ?_⟩
  have hperm : d'.toList.Perm l := by
    have : d'.size = l.toArray.size := hp1
    rw [← this, Array.extract_size] at hp3
    rw [this] at hp3
    simpa using hp3
  have hsort : d'.toList.Pairwise (fun x y => kM x.1 ≤ kM y.1) := by
    rw [List.pairwise_iff_getElem]
    intro i j hi hj hij
    have := hs i j (Nat.zero_le _) hij (by rw [← hp1]; simpa using hj)
    rw [lt_R] at this
    have ei : d'[i]! = d'.toList[i] := by simp at hi; simp [hi]
    have ej : d'[j]! = d'.toList[j] := by simp at hj; simp [hj]
    rw [ei, ej] at this
    simp only [decide_eq_false_iff_not] at this
    omega
  have he : d'.toList = srtK (fun x => x.1) l := srtK_one (fun x => x.1) hperm (hsort.imp_of_mem fun {a b} ha hb' h => by rw [kM_of (hb a (hperm.mem_iff.1 ha)), kM_of (hb b (hperm.mem_iff.1 hb'))] at h; exact h) hn
  have hk : Sort.HoldsK rgE 2 (Sort.putRowK rgE 2 (Sort.ahead w m) g 0 d') g 0 d' := Sort.holdsK_putRowK rgE 2 (Sort.ahead w m) g 0 l.toArray d' hH hp1
  have hk2 : Sort.HoldsK rgE 2 (Go.Proofs.sortWorldK rgE 2 w g 0 m d' os) g 0 d' := Sort.holds_grow id _ os g 0 _ (by simpa [Sort.putRowK] using hgl) hk
  intro i hi j hj
  have hi' : i < d'.size := by rw [← Array.length_toList, he]; exact hi
  rw [cellK_of_holds rgE 2 (fun _ => rfl) hk2 i j hi' hj]
  have : d'[i] = (srtK (fun x => x.1) l)[i] := by
    have h1 : d'.toList[i]? = (srtK (fun x => x.1) l)[i]? := by rw [he]
    rw [List.getElem?_eq_getElem hi, List.getElem?_eq_getElem (by simpa using hi')] at h1
    simpa using h1
  rw [this]
  have hm := hb _ ((srtK_mem _ _ _).1 (List.getElem_mem hi))
  simp only [rgV, rgE, kM_of hm]
set_option maxRecDepth 100000 in
set_option maxHeartbeats 4000000 in
theorem c_befD (x y : (Nat × Nat × Nat)) (w : World) : Calls Tryz.prog 78 #[.agg #[.int .i32 (kM x.1 : Nat), .int .i32 (x.2.1 : Nat), .int .i64 (x.2.2 : Nat)], .agg #[.int .i32 (kM y.1 : Nat), .int .i32 (y.2.1 : Nat), .int .i64 (y.2.2 : Nat)]] w fun e w' => e = .returned (.int .i64 (cmpN (kM x.1) (kM y.1))) ∧ w' = (w.alloc (.cells #[.int .i32 (kM x.1 : Nat), .int .i32 (x.2.1 : Nat), .int .i64 (x.2.2 : Nat)] 123)).alloc (.cells #[.int .i32 (kM y.1 : Nat), .int .i32 (y.2.1 : Nat), .int .i64 (y.2.2 : Nat)] 123) := by
  have hx := kM_lt x.1
  have hy := kM_lt y.1
  generalize kM x.1 = p at hx ⊢
  generalize kM y.1 = q at hy ⊢
  have hpI : ((p : Nat) : Int) < 1114112 := by omega
  have hqI : ((q : Nat) : Int) < 1114112 := by omega
  clear hx hy
  have b1 := World.alloc_heap_new w (.cells #[.int .i32 (p : Nat), .int .i32 (x.2.1 : Nat), .int .i64 (x.2.2 : Nat)] 123)
  have b2 := World.alloc_heap_new (w.alloc (.cells #[.int .i32 (p : Nat), .int .i32 (x.2.1 : Nat), .int .i64 (x.2.2 : Nat)] 123)) (.cells #[.int .i32 (q : Nat), .int .i32 (y.2.1 : Nat), .int .i64 (y.2.2 : Nat)] 123)
  rw [World.size_alloc] at b2
  have b3 := ((Ext.refl (w.alloc (.cells #[.int .i32 (p : Nat), .int .i32 (x.2.1 : Nat), .int .i64 (x.2.2 : Nat)] 123))).alloc (.cells #[.int .i32 (q : Nat), .int .i32 (y.2.1 : Nat), .int .i64 (y.2.2 : Nat)] 123)).blk b1
  have k1 := cell_blk b3 0
  have k2 := cell_blk b2 0
  simp only [List.getElem?_toArray, List.getElem?_cons_zero] at k1 k2
  clear b1 b2 b3
  go_enter Tryz.func78, Tryz.ntmps78
  go_wp2_with fail
  refine (c_Compare _ _ _).mono ?_; rintro e w1 ⟨rfl, rfl⟩; go_wp2_with fail; exact ret_one rfl rfl rfl ⟨rfl, rfl⟩
theorem lt_D (x y : (Nat × Nat × Nat)) : ltOf (fun x y : (Nat × Nat × Nat) => cmpN (kM x.1) (kM y.1)) x y = decide (kM x.1 < kM y.1) := by
  unfold ltOf cmpN cmpI
  by_cases h1 : kM x.1 < kM y.1 <;> by_cases h2 : kM y.1 < kM x.1 <;> simp [h1, h2]
theorem swo_D : Sort.SWO (ltOf fun x y : (Nat × Nat × Nat) => cmpN (kM x.1) (kM y.1)) where
  irrefl x := by rw [lt_D]; simp
  trans x y z h1 h2 := by rw [lt_D] at *; simp at *; omega
  ntrans x y z h1 h2 := by rw [lt_D] at *; simp at *; omega
theorem lays_D (blk off size : Nat) (w : World) : CmpLays Tryz.prog 78 #[] rdE 3 (fun x y => cmpN (kM x.1) (kM y.1)) blk off size w :=
  fun _ _ _ _ x y => (c_befD x y _).mono fun _ _ ⟨he, hw⟩ => ⟨he, 0, #[.cells #[.int .i32 (kM x.1 : Nat), .int .i32 (x.2.1 : Nat), .int .i64 (x.2.2 : Nat)] 123] ++ #[.cells #[.int .i32 (kM y.1 : Nat), .int .i32 (y.2.1 : Nat), .int .i64 (y.2.2 : Nat)] 123], hw.trans (by rw [Sort.alloc_eq_grow, Sort.alloc_eq_grow, Sort.grow_grow]; rfl)⟩
theorem c_SortD (B g cap : Nat) (l : List (Nat × Nat × Nat)) (w : World) (h0 : w.ownsRow B 123 3 (.slice (some ⟨g, 0, none⟩) l.length cap) l.length (l.flatMap rdV)) (hl : l.length ≤ 2000000) (hn : (l.map fun x => x.1).Nodup) (hb : ∀ x ∈ l, x.1 ≤ 1114111) :
    Calls Tryz.prog 77 #[.slice (some ⟨g, 0, none⟩) l.length cap, .func (.func 78) #[] #[]] w fun e w' => e = .returned (.tuple #[]) ∧ w.grownBy w' (some g) ∧
      ∀ i (h : i < (srtK (fun x => x.1) l).length) (j : Nat), j < 3 → w'.cell? ⟨g, i * 3 + j, none⟩ = (rdV (srtK (fun x => x.1) l)[i])[j]? := by
  have he0 : l.flatMap rdV = l.flatMap rdE := by
    rw [List.flatMap_def, List.flatMap_def]
    exact congrArg List.flatten (List.map_congr_left fun x hx => by simp only [rdV, rdE, kM_of (hb x hx)])
  have h := h0
  rw [he0] at h
  have hH := holdsK_of_own rdE 3 (by decide) (fun _ => rfl) h
  obtain ⟨hg, hgl⟩ := h.lt g rfl
  have eg : ∀ args w, (callFunc 78 args).run Tryz.prog w = .ok (.enter 78 args) w := enters_of Tryz.func78 (by kernel_rfl) rfl
  refine (AnyQ.slices_SortFunc Tryz.sortD 3 Tryz.isAgg123 Tryz.sizeOf123 rdE (fun _ => rfl) (fun x v hv => by simp [rdE] at hv; rcases hv with rfl | rfl | rfl <;> rfl) (fun x y => cmpN (kM x.1) (kM y.1)) swo_D 78 #[] g 0 cap l.toArray w eg (lays_D g 0 l.toArray.size w) hH hgl (by simp; omega)).mono ?_
  rintro e w' ⟨rfl, d', m, os, ⟨hp1, hp2, hp3⟩, hs, rfl⟩
  refine ⟨rfl, grownBy_sortK rdE 3 d', ?_⟩
  have hperm : d'.toList.Perm l := by
    have : d'.size = l.toArray.size := hp1
    rw [← this, Array.extract_size] at hp3
    rw [this] at hp3
    simpa using hp3
  have hsort : d'.toList.Pairwise (fun x y => kM x.1 ≤ kM y.1) := by
    rw [List.pairwise_iff_getElem]
    intro i j hi hj hij
    have := hs i j (Nat.zero_le _) hij (by rw [← hp1]; simpa using hj)
    rw [lt_D] at this
    have ei : d'[i]! = d'.toList[i] := by simp at hi; simp [hi]
    have ej : d'[j]! = d'.toList[j] := by simp at hj; simp [hj]
    rw [ei, ej] at this
    simp only [decide_eq_false_iff_not] at this
    omega
  have he : d'.toList = srtK (fun x => x.1) l := srtK_one (fun x => x.1) hperm (hsort.imp_of_mem fun {a b} ha hb' h => by rw [kM_of (hb a (hperm.mem_iff.1 ha)), kM_of (hb b (hperm.mem_iff.1 hb'))] at h; exact h) hn
  have hk : Sort.HoldsK rdE 3 (Sort.putRowK rdE 3 (Sort.ahead w m) g 0 d') g 0 d' := Sort.holdsK_putRowK rdE 3 (Sort.ahead w m) g 0 l.toArray d' hH hp1
  have hk2 : Sort.HoldsK rdE 3 (Go.Proofs.sortWorldK rdE 3 w g 0 m d' os) g 0 d' := Sort.holds_grow id _ os g 0 _ (by simpa [Sort.putRowK] using hgl) hk
  intro i hi j hj
  have hi' : i < d'.size := by rw [← Array.length_toList, he]; exact hi
  rw [cellK_of_holds rdE 3 (fun _ => rfl) hk2 i j hi' hj]
  have : d'[i] = (srtK (fun x => x.1) l)[i] := by
    have h1 : d'.toList[i]? = (srtK (fun x => x.1) l)[i]? := by rw [he]
    rw [List.getElem?_eq_getElem hi, List.getElem?_eq_getElem (by simpa using hi')] at h1
    simpa using h1
  rw [this]
  have hm := hb _ ((srtK_mem _ _ _).1 (List.getElem_mem hi))
  simp only [rdV, rdE, kM_of hm]
end Go.Proofs.YtlmkbldiicbejaaGreatDoor
end

section
namespace Go.Proofs.YtlmkbldiicbejaaGreatDoor
open Go.RowKit Go.Rp Go.Maps Go.Cl Go.Shelf

theorem Tryz.infoRg : (Tryz.prog.info? 139).map (fun i => (i.zero, i.size, i.bytes)) = some (some (.agg #[.int .i32 0, .int .i32 0]), 2, 8) := by kernel_rfl
/-- Ranges that are put together, and the rest of them. -/
def mrgA (D r : List (Nat × Nat)) : List (Nat × Nat) := match D.reverse with
  | [] => normS r
  | c :: t => t.reverse ++ mrgR c r
theorem mrgA_nil (r : List (Nat × Nat)) : mrgA [] r = normS r := rfl
theorem mrgA_snoc (D r : List (Nat × Nat)) (c : Nat × Nat) : mrgA (D ++ [c]) r = D ++ mrgR c r := by simp [mrgA]
theorem mrgA_end (D : List (Nat × Nat)) : mrgA D [] = D := by
  rcases List.eq_nil_or_concat D with rfl | ⟨t, c, rfl⟩
  · rfl
  · rw [List.concat_eq_append, mrgA_snoc]; rfl
theorem rgW_set (D : List (Nat × Nat)) (c : Nat × Nat) (n : Nat) : (rgW (D ++ [c])).set (D.length * 2 + 1) (.int .i32 (n : Nat)) = rgW (D ++ [(c.1, n)]) := by
  rw [rgW_app, rgW_app, List.set_append_right _ _ (by rw [rgW_len]; omega), rgW_len, show D.length * 2 + 1 - D.length * 2 = 1 by omega]
  rfl
theorem own_setG {W : World} {B g n c i k : Nat} {T : TypeId} {xs : List Value} (h : W.ownsRow B T k (.slice (some ⟨g, 0, none⟩) n c) n xs) (u : Value) : (W.setCell ⟨g, i, none⟩ u).ownsRow B T k (.slice (some ⟨g, 0, none⟩) n c) n (xs.set i u) := by
  obtain ⟨h1, h2⟩ := h
  refine ⟨by rw [List.length_set]; exact h1, ?_⟩
  rcases h2 with ⟨e, _⟩ | ⟨g', cap, cur, e, hb, hg, hc, hm, hs, ht⟩
  · cases e
  · cases e
    refine .inr ⟨g, c, cur.setIfInBounds i u, rfl, hb, set_blk hg i u, hc, hm, by simpa using hs, ?_⟩
    rw [Array.toList_setIfInBounds, List.take_set, ht]
theorem own_cap {W : World} {B n c k : Nat} {p : Option Addr} {T : TypeId} {xs : List Value} (h : W.ownsRow B T k (.slice p n c) n xs) : n ≤ c := by
  rcases h.2 with ⟨e, h0⟩ | ⟨g', cap, cur, e, hb, hg, hc, _⟩
  · omega
  · cases e
    exact hc
/-- Ranges put in order. -/
theorem c_SortRR (B : Nat) (pa : Option Addr) (ca : Nat) (l : List (Nat × Nat)) (W : World) (h : W.ownsRow B 139 2 (.slice pa l.length ca) l.length (rgW l)) (hok : RgsOk l) :
    Calls Tryz.prog 125 #[.slice pa l.length ca, .func (.func 126) #[] #[]] W fun e w' => e = .returned (.tuple #[]) ∧ RRow w' (.slice pa l.length ca) (srtK (fun x => x.1) l) ∧ W.grownBy w' (Value.slice pa l.length ca).ownBlock := by
  have hcap := own_cap h
  by_cases h0 : l = []
  · subst h0
    refine (AnyF.slices_SortFunc_none Tryz.sortR pa ca (.func (.func 126) #[] #[]) W).mono ?_
    rintro e w' ⟨rfl, rfl⟩
    exact ⟨rfl, ⟨pa, ca, rfl, Nat.zero_le _, fun h => absurd rfl h⟩, World.grownBy.refl _ _⟩
  · have hp := List.length_pos_iff.2 h0
    obtain ⟨g, rfl, _, _, _⟩ := own_at h hp
    refine (c_SortR B g ca l W h (by have := hok.len; omega) hok.one (fun x hx => by have := hok.ok x hx; unfold RgOk at this; omega)).mono ?_
    rintro e w' ⟨rfl, hg, hc⟩
    refine ⟨rfl, ⟨_, ca, by rw [srtK_len], by rw [srtK_len]; exact hcap, fun _ => ⟨g, 0, rfl, fun i hi => ?_⟩⟩, hg⟩
    rw [Nat.zero_add]
    exact ⟨hc i hi 0 (by decide), hc i hi 1 (by decide)⟩
set_option maxRecDepth 100000 in
set_option maxHeartbeats 4000000 in
theorem c_Norm (v : Value) (l : List (Nat × Nat)) (w : World) (h : RRow w v l) (hok : RgsOk l) :
    Calls Tryz.prog 103 #[v] w fun e w' => ∃ u, e = .returned u ∧ w'.ownsRow w.heap.size 139 2 u (normR l).length (rgW (normR l)) ∧ Ext w w' := by
  obtain ⟨p, cap, rfl, hcap, hc⟩ := h
  have HC := Lib.hid hc
  have HOK := Lib.hid hok
  have hlI : ((l.length : Nat) : Int) ≤ 10000 := by have := hok.len; omega
  clear hc hok
  go_enter Tryz.func103, Tryz.ntmps103
  go_wp2_with fail
  go_loopw [3, 5, 12] (fun av xv iv W => ∃ i : Nat, iv = .int .i64 (i : Nat) ∧ i ≤ l.length ∧ Hid (W.ownsRow w.heap.size 139 2 av i (rgW (l.take i))) ∧ Hid (Ext w W)) (fun _ _ iv _ => l.length + 1 - (intOf iv).toNat)
  case atStart => exact ⟨0, rfl, by omega, Lib.hid (World.ownsRow_nil _ _ _ _), Lib.hid (Ext.refl _)⟩
  case round =>
    obtain ⟨i, rfl, hi, HR, HX⟩ := hrel
    obtain ⟨W, rfl⟩ : ∃ W, W = wr := ⟨_, rfl⟩
    obtain ⟨pa, ca, rfl⟩ := own_slice HR.out
    by_cases hlt : i < l.length
    · have hI : ((i : Nat) : Int) < (l.length : Nat) := by omega
      have hd : decide (i < l.length) = true := decide_eq_true hlt
      obtain ⟨g, off, rfl, hcel⟩ := HC.out (by intro e; subst e; simp at hlt)
      obtain ⟨k0, k1⟩ := hcel i hlt
      have hrg := HOK.out.ok _ (List.getElem_mem hlt)
      have HTK := Lib.hid (show rgW (l.take (i + 1)) = rgW (l.take i) ++ [.int .i32 (l[i].1 : Nat), .int .i32 (l[i].2 : Nat)] by rw [List.take_succ_eq_append_getElem hlt, rgW_app]; rfl)
      obtain ⟨a, ha⟩ : ∃ a, l[i].1 = a := ⟨_, rfl⟩
      obtain ⟨b, hb⟩ : ∃ b, l[i].2 = b := ⟨_, rfl⟩
      unfold RgOk at hrg
      rw [ha, hb] at HTK hrg
      rw [ha] at k0
      rw [hb] at k1
      have e0 := HX.out.cell k0
      have e1 := HX.out.cell k1
      have c1 : ((a : Nat) : Int) ≤ (b : Nat) := by omega
      have c2 : ((b : Nat) : Int) ≤ 1114111 := by omega
      have c3 : (0 : Int) ≤ (a : Nat) := by omega
      have m1 : max ((a : Nat) : Int) 0 = (a : Nat) := by omega
      have m2 : min ((b : Nat) : Int) 1114111 = (b : Nat) := by omega
      clear hcel k0 k1 ha hb hrg
      go_wp2_with (at_builtin; refine Hid.out ?_)
      refine Lib.hid ?_
      have hsz := World.size_alloc W (.cells #[.int .i32 (a : Nat), .int .i32 (b : Nat)] 139)
      have hxb := (Ext.refl W).alloc (.cells #[.int .i32 (a : Nat), .int .i32 (b : Nat)] 139)
      have hr2 := ownsRow_ext HR.out hxb
      have hx2 := HX.out.trans hxb
      generalize W.alloc (.cells #[.int .i32 (a : Nat), .int .i32 (b : Nat)] 139) = Wb at hxb hr2 hx2 hsz ⊢
      obtain ⟨i0, hi0, hz0, hz1, hz3⟩ := info_parts Tryz.infoRg
      refine wpList_appN rfl (.tmp 29) (.tmp 31) 130 rfl 139 i0 (.agg #[.int .i32 0, .int .i32 0]) 2 8 Tryz.underlying130 hi0 hz0 hz1 hz3 rfl (by decide) rfl hr2 hx2 [.int .i32 (a : Nat), .int .i32 (b : Nat)] _ hsz.symm rfl rfl (by intro u hu; simp at hu; rcases hu with rfl | rfl <;> rfl) (by omega) (by decide) ?_
      intro v' w9 hown9 hx9 _
      rw [← HTK.out] at hown9
      have HO := Lib.hid (And.intro hown9 hx9)
      clear hown9 hx9 hr2 hx2 hxb e0 e1
      go_wp2_with fail
      exact ⟨⟨i + 1, by simp, by omega, Lib.hid HO.out.1, Lib.hid HO.out.2⟩, by simp only [intOf]; omega⟩
    · have hI : ¬ ((i : Nat) : Int) < (l.length : Nat) := by omega
      have hd : decide (i < l.length) = false := decide_eq_false hlt
      obtain rfl : i = l.length := by omega
      have HRL := Lib.hid (show W.ownsRow w.heap.size 139 2 (.slice pa l.length ca) l.length (l.flatMap rgV) by have := HR.out; rw [List.take_length] at this; exact this)
      clear hlt hi HR
      go_wp2_with fail
      refine (c_SortRR w.heap.size pa ca l W HRL.out HOK.out).mono ?_
      rintro e w2 ⟨rfl, hr2, hg2⟩
      have HX2 := Lib.hid (show Ext w w2 from Below.grown HX.out hg2 HX.out.sz (fun k e => (HRL.out.lt k e).1))
      obtain ⟨p2, cap2, e2, hc2, hcel2⟩ := hr2
      obtain ⟨rfl, hlen2, rfl⟩ := Value.slice.inj e2
      have hok2 : ∀ x ∈ srtK (fun x : Nat × Nat => x.1) l, RgOk x := fun x hx => HOK.out.ok x ((srtK_mem _ _ _).1 hx)
      have HN := Lib.hid (show normR l = normS (srtK (fun x => x.1) l) from rfl)
      obtain ⟨s, hs⟩ : ∃ s, srtK (fun x : Nat × Nat => x.1) l = s := ⟨_, rfl⟩
      rw [hs] at hcel2 hok2 HN hlen2
      have HSL := Lib.hid hlen2
      have HC2 := Lib.hid hcel2
      have HOK2 := Lib.hid hok2
      clear hcel2 hok2 e2 hlen2 hs hc2 hg2 HRL HC HX hI hd
      go_wp2_with fail
      obtain ⟨W2, rfl⟩ : ∃ W2, W2 = w2 := ⟨_, rfl⟩
      go_loopw [6, 8, 9, 38] (fun ov xv nv iv W => ∃ (i : Nat) (D : List (Nat × Nat)), iv = .int .i64 (i : Nat) ∧ i ≤ l.length ∧ Hid (W.ownsRow W2.heap.size 139 2 ov D.length (rgW D)) ∧ Hid (Ext W2 W) ∧ Hid (mrgA D (s.drop i) = normS s ∧ D.length ≤ i ∧ ∀ x ∈ D, RgOk x)) (fun _ _ _ iv _ => l.length + 1 - (intOf iv).toNat)
      case atStart => exact ⟨0, [], rfl, by omega, Lib.hid (World.ownsRow_nil _ _ _ _), Lib.hid (Ext.refl _), Lib.hid ⟨rfl, Nat.le_refl _, fun x h => by cases h⟩⟩
      case round =>
        obtain ⟨i, D, rfl, hi, HR, HXX, HM⟩ := hrel
        obtain ⟨W, rfl⟩ : ∃ W, W = wr := ⟨_, rfl⟩
        obtain ⟨po, co, rfl⟩ := own_slice HR.out
        by_cases hlt : i < l.length
        · have hI : ((i : Nat) : Int) < (l.length : Nat) := by omega
          have hd : decide (i < l.length) = true := decide_eq_true hlt
          have hls : i < s.length := by have := HSL.out; omega
          obtain ⟨g, off, rfl, hcel⟩ := HC2.out (by intro e; subst e; simp at hls)
          obtain ⟨k0, k1⟩ := hcel i hls
          have hrg := HOK2.out _ (List.getElem_mem hls)
          have HDR := Lib.hid (show s.drop i = s[i] :: s.drop (i + 1) from List.drop_eq_getElem_cons hls)
          obtain ⟨x, hx⟩ : ∃ x, s[i] = x := ⟨_, rfl⟩
          obtain ⟨a, b⟩ := x
          rw [hx] at HDR hrg k0 k1
          unfold RgOk at hrg
          simp only at hrg k0 k1
          have e0 := HXX.out.cell k0
          have e1 := HXX.out.cell k1
          have c2 : ((b : Nat) : Int) ≤ 1114111 := by omega
          have c3 : ((a : Nat) : Int) ≤ (b : Nat) := by omega
          have HRG := Lib.hid (show RgOk (a, b) from hrg)
          clear hcel k0 k1 hx hrg hls
          rcases List.eq_nil_or_concat D with rfl | ⟨D, c, rfl⟩
          · go_wp2_with fail
            have hxb := (Ext.refl W).alloc (.cells #[.int .i32 (a : Nat), .int .i32 (b : Nat)] 139)
            have hbn := World.alloc_heap_new W (.cells #[.int .i32 (a : Nat), .int .i32 (b : Nat)] 139)
            generalize W.alloc (.cells #[.int .i32 (a : Nat), .int .i32 (b : Nat)] 139) = Wb at hxb hbn  ⊢
            have HRB := Lib.hid (And.intro (ownsRow_ext HR.out hxb) (And.intro (HXX.out.trans hxb) hbn))
            have HNE := Lib.hid (fun k e => (HR.out.lt k e).2)
            generalize W.heap.size = xb at hbn HRB HNE ⊢
            clear hxb hbn e0 e1
            have b0 : Wb.cell? ⟨xb, 0, none⟩ = some (.int .i32 (a : Nat)) := (cell_blk HRB.out.2.2 0).trans rfl
            have b1 : Wb.cell? ⟨xb, 1, none⟩ = some (.int .i32 (b : Nat)) := (cell_blk HRB.out.2.2 1).trans rfl
            have s0 : ∀ w', EOn (fun _ => True) Wb w' → w'.cell? ⟨xb, 0, none⟩ = some (.int .i32 (a : Nat)) := fun w' hx => hx.cell trivial b0
            have s1 : ∀ w', EOn (fun _ => True) Wb w' → w'.cell? ⟨xb, 1, none⟩ = some (.int .i32 (b : Nat)) := fun w' hx => hx.cell trivial b1
            clear b0 b1
            refine wp_lex (fun _ => True) [true, true, true, true, true, true, true, true, true, true, true, true, true, true] (by kernel_rfl) (by kernel_rfl) ?_
            repeat first
              | refine wpG_move' ?_
              | refine wpG_assign' ?_
              | refine wpG_val' ?_
              | refine wpG_no' ?_
            refine wpG_end (fun w7 hx7 => wpList_nil (gQ_normal ?_))
            have HR7 := Lib.hid (And.intro (ownsRow_ext HRB.out.1 hx7) (And.intro (HRB.out.2.1.trans hx7) (hx7.blk HRB.out.2.2)))
            have t0 : w7.cell? ⟨xb, 0, none⟩ = some (.int .i32 (a : Nat)) := (cell_blk HR7.out.2.2 0).trans rfl
            have t1 : w7.cell? ⟨xb, 1, none⟩ = some (.int .i32 (b : Nat)) := (cell_blk HR7.out.2.2 1).trans rfl
            clear s0 s1 hx7
            go_wp2_with (at_builtin; refine Hid.out ?_)
            refine Lib.hid ?_
            clear t0 t1
            obtain ⟨i0, hi0, hz0, hz1, hz3⟩ := info_parts Tryz.infoRg
            refine wpList_app rfl (.tmp 72) (.tmp 74) 130 rfl 139 i0 (.agg #[.int .i32 0, .int .i32 0]) 2 8 Tryz.underlying130 hi0 hz0 hz1 hz3 rfl (by decide) rfl HR7.out.1 HR7.out.2.1 [.int .i32 (a : Nat), .int .i32 (b : Nat)] rfl rfl (by intro u hu; simp at hu; rcases hu with rfl | rfl <;> rfl) (by have := HM.out.2.1; first | omega | (simp only [List.length_append, List.length_cons, List.length_nil] at this ⊢; omega)) (by decide) ?_
            intro v' w9 hown9 hx9 hkt
            have HO := Lib.hid (show w9.ownsRow W2.heap.size 139 2 v' (([] : List (Nat × Nat)) ++ [(a, b)]).length (rgW (([] : List (Nat × Nat)) ++ [(a, b)])) by
              rw [rgW_app, show (([] : List (Nat × Nat)) ++ [(a, b)]).length = (([] : List (Nat × Nat))).length + 1 from by simp only [List.length_append, List.length_cons, List.length_nil]]
              first | exact hown9 | (rw [show (([] : List (Nat × Nat))).length = D.length + 1 from by simp only [List.length_append, List.length_cons, List.length_nil]]; exact hown9))
            have HX9 := Lib.hid hx9
            clear hown9 hx9 hkt
            go_wp2_with fail
            exact ⟨⟨i + 1, ([] : List (Nat × Nat)) ++ [(a, b)], by simp, by omega, HO, HX9, Lib.hid ⟨by have := HM.out.1; rw [mrgA_nil, HDR.out] at this; exact this, by have := HM.out.2.1; simp only [List.length_append, List.length_cons, List.length_nil] at this ⊢; omega, fun x hx => by
              rcases List.mem_append.1 hx with hx | hx
              · exact HM.out.2.2 x (hx)
              · rw [List.mem_singleton] at hx
                exact hx ▸ HRG.out⟩⟩, by simp only [intOf]; omega⟩
          · rw [List.concat_eq_append] at HR HM
            have hDL : (D ++ [c]).length = D.length + 1 := by simp
            rw [List.concat_eq_append]
            rw [hDL] at HR ⊢
            obtain ⟨go, rfl, _, _, hco⟩ := own_at HR.out (by omega)
            obtain ⟨ca', cb⟩ := c
            have hcb := hco (D.length * 2 + 1) (by omega)
            rw [rgW_app, List.getElem?_append_right (by rw [rgW_len]; omega), rgW_len, show D.length * 2 + 1 - D.length * 2 = 1 by omega] at hcb
            have hcb2 := HM.out.2.2 (ca', cb) (by simp)
            unfold RgOk at hcb2
            simp only at hcb2
            have d1 : ((D.length : Nat) : Int) ≤ 10000 := by have := HM.out.2.1; simp at this; omega
            have d2 : ((cb : Nat) : Int) ≤ 1114111 := by omega
            have HCB := Lib.hid (show W.cell? ⟨go, D.length * 2 + 1, none⟩ = some (.int .i32 (cb : Nat)) from hcb)
            clear hco hcb hDL
            obtain ⟨m, hm⟩ : ∃ m, D.length = m := ⟨_, rfl⟩
            have HDM := Lib.hid hm
            rw [hm] at HR HCB d1 ⊢
            clear hm
            go_wp2_with fail
            have HCB2 := Lib.hid (((Ext.refl W).alloc (.cells #[.int .i32 (a : Nat), .int .i32 (b : Nat)] 139)).cell HCB.out)
            have hxb := (Ext.refl W).alloc (.cells #[.int .i32 (a : Nat), .int .i32 (b : Nat)] 139)
            have hbn := World.alloc_heap_new W (.cells #[.int .i32 (a : Nat), .int .i32 (b : Nat)] 139)
            generalize W.alloc (.cells #[.int .i32 (a : Nat), .int .i32 (b : Nat)] 139) = Wb at hxb hbn HCB2 ⊢
            have HRB := Lib.hid (And.intro (ownsRow_ext HR.out hxb) (And.intro (HXX.out.trans hxb) hbn))
            have HNE := Lib.hid (fun k e => (HR.out.lt k e).2)
            generalize W.heap.size = xb at hbn HRB HNE ⊢
            clear hxb hbn e0 e1
            have b0 : Wb.cell? ⟨xb, 0, none⟩ = some (.int .i32 (a : Nat)) := (cell_blk HRB.out.2.2 0).trans rfl
            have b1 : Wb.cell? ⟨xb, 1, none⟩ = some (.int .i32 (b : Nat)) := (cell_blk HRB.out.2.2 1).trans rfl
            have s0 : ∀ w', EOn (fun _ => True) Wb w' → w'.cell? ⟨xb, 0, none⟩ = some (.int .i32 (a : Nat)) := fun w' hx => hx.cell trivial b0
            have s1 : ∀ w', EOn (fun _ => True) Wb w' → w'.cell? ⟨xb, 1, none⟩ = some (.int .i32 (b : Nat)) := fun w' hx => hx.cell trivial b1
            clear b0 b1
            have s2 : ∀ w', EOn (fun _ => True) Wb w' → w'.cell? ⟨go, m * 2 + 1, none⟩ = some (.int .i32 (cb : Nat)) := fun w' hx => hx.cell trivial HCB2.out
            by_cases hle : a ≤ cb + 1
            · have hleI : ((a : Nat) : Int) ≤ (cb : Nat) + 1 := by omega
              have ix : ((m : Nat) : Int) < (m : Nat) + 1 := by omega
              have ix0 : (0 : Int) ≤ (m : Nat) := by omega
              refine wp_lex (fun _ => True) [true, true, true, true, true, true, true, true, true, true, true, true, true, true] (by kernel_rfl) (by kernel_rfl) ?_
              repeat first
                | refine wpG_move' ?_
                | refine wpG_assign' ?_
                | refine wpG_val' ?_
                | refine wpG_no' ?_
              refine wpG_end (fun w7 hx7 => wpList_nil (gQ_normal ?_))
              have HR7 := Lib.hid (And.intro (ownsRow_ext HRB.out.1 hx7) (And.intro (HRB.out.2.1.trans hx7) (And.intro (hx7.blk HRB.out.2.2) (hx7.cell HCB2.out))))
              clear s0 s1 s2 hx7 hleI HCB2
              obtain ⟨mx, hmx⟩ : ∃ mx, max cb b = mx := ⟨_, rfl⟩
              have mxI : max ((cb : Nat) : Int) (b : Nat) = (mx : Nat) := by omega
              have HMX := Lib.hid (And.intro hmx (And.intro hle (show ca' ≤ mx ∧ mx ≤ 1114111 by omega)))
              have s1 : ∀ w', EOn (fun _ => True) w7 w' → w'.cell? ⟨xb, 1, none⟩ = some (.int .i32 (b : Nat)) := fun w' hx => hx.cell trivial ((cell_blk HR7.out.2.2.1 1).trans rfl)
              have s2 : ∀ w', EOn (fun _ => True) w7 w' → w'.cell? ⟨go, m * 2 + 1, none⟩ = some (.int .i32 (cb : Nat)) := fun w' hx => hx.cell trivial HR7.out.2.2.2
              clear hmx
              go_wp2_with fail
              refine wp_reck (fun _ => True) [0, 1, 2, 3, 4, 5, 6, 7, 9] [8, 10, 11, 12, 13, 14] [true, true] (by kernel_rfl) (by kernel_rfl) (by simp only [List.map_cons, List.map_nil, nth]; rfl) (by simp only [List.map_cons, List.map_nil, nth]; rfl) (fun wq hxq => ?_)
              repeat first
                | refine wpP_move' ?_
                | refine wpP_val' ?_
              refine wpP_end ?_
              replace s1 := fun w' hx => s1 w' (EOn.trans (EOn.of_ext hxq) hx)
              replace s2 := fun w' hx => s2 w' (EOn.trans (EOn.of_ext hxq) hx)
              have HRq := Lib.hid (And.intro (ownsRow_ext HR7.out.1 hxq) (And.intro (HR7.out.2.1.trans hxq) (hxq.cell HR7.out.2.2.2)))
              clear hxq HR7
              repeat first
                | refine wpG_move' ?_
                | refine wpG_assign' ?_
                | refine wpG_val' ?_
                | refine wpG_no' ?_
              refine wpG_end (fun w8 hx8 => ?_)
              have HR8 := Lib.hid (And.intro (ownsRow_ext HRq.out.1 hx8) (HRq.out.2.1.trans hx8))
              have u0 := hx8.cell HRq.out.2.2
              have u1 := HR8.out.1.frozenAt (m * 2 + 1)
              clear s1 s2 hx8 HRq
              go_wp2_with fail
              refine gQ_normal ?_
              go_wp2_with fail
              have hset := own_setG (i := m * 2 + 1) HR8.out.1 (.int .i32 (mx : Nat))
              rw [← HDM.out, rgW_set] at hset
              rw [← HDM.out]
              refine ⟨⟨i + 1, D ++ [(ca', mx)], by simp, by omega, Lib.hid (by rw [List.length_append]; exact hset), Lib.hid (HR8.out.2.setCell (HR8.out.1.lt go rfl).1 _), Lib.hid ⟨?_, by have := HM.out.2.1; simp only [List.length_append, List.length_cons, List.length_nil] at this ⊢; omega, fun x hx => ?_⟩⟩, by simp only [intOf]; omega⟩
              · have := HM.out.1
                rw [HDR.out, mrgA_snoc, mrgR, if_pos HMX.out.2.1] at this
                rw [mrgA_snoc, ← this, ← HMX.out.1]
              · rcases List.mem_append.1 hx with hx | hx
                · exact HM.out.2.2 x (List.mem_append.2 (.inl hx))
                · rw [List.mem_singleton] at hx
                  exact hx ▸ HMX.out.2.2
            · have hleI : ¬ ((a : Nat) : Int) ≤ (cb : Nat) + 1 := by omega
              have ix : ((m : Nat) : Int) < (m : Nat) + 1 := by omega
              have ix0 : (0 : Int) ≤ (m : Nat) := by omega
              refine wp_lex (fun _ => True) [true, true, true, true, true, true, true, true, true, true, true, true, true, true] (by kernel_rfl) (by kernel_rfl) ?_
              repeat first
                | refine wpG_move' ?_
                | refine wpG_assign' ?_
                | refine wpG_val' ?_
                | refine wpG_no' ?_
              refine wpG_end (fun w7 hx7 => wpList_nil (gQ_normal ?_))
              clear s2 HCB2 hleI
              rw [← HDM.out] at *
              have HR7 := Lib.hid (And.intro (ownsRow_ext HRB.out.1 hx7) (And.intro (HRB.out.2.1.trans hx7) (hx7.blk HRB.out.2.2)))
              have t0 : w7.cell? ⟨xb, 0, none⟩ = some (.int .i32 (a : Nat)) := (cell_blk HR7.out.2.2 0).trans rfl
              have t1 : w7.cell? ⟨xb, 1, none⟩ = some (.int .i32 (b : Nat)) := (cell_blk HR7.out.2.2 1).trans rfl
              clear s0 s1 hx7
              go_wp2_with (at_builtin; refine Hid.out ?_)
              refine Lib.hid ?_
              clear t0 t1
              obtain ⟨i0, hi0, hz0, hz1, hz3⟩ := info_parts Tryz.infoRg
              refine wpList_app rfl (.tmp 72) (.tmp 74) 130 rfl 139 i0 (.agg #[.int .i32 0, .int .i32 0]) 2 8 Tryz.underlying130 hi0 hz0 hz1 hz3 rfl (by decide) rfl HR7.out.1 HR7.out.2.1 [.int .i32 (a : Nat), .int .i32 (b : Nat)] rfl rfl (by intro u hu; simp at hu; rcases hu with rfl | rfl <;> rfl) (by have := HM.out.2.1; first | omega | (simp only [List.length_append, List.length_cons, List.length_nil] at this ⊢; omega)) (by decide) ?_
              intro v' w9 hown9 hx9 hkt
              have HO := Lib.hid (show w9.ownsRow W2.heap.size 139 2 v' (D ++ [(ca', cb)] ++ [(a, b)]).length (rgW (D ++ [(ca', cb)] ++ [(a, b)])) by
                rw [rgW_app, show (D ++ [(ca', cb)] ++ [(a, b)]).length = (D ++ [(ca', cb)]).length + 1 from by simp only [List.length_append, List.length_cons, List.length_nil]]
                first | exact hown9 | (rw [show (D ++ [(ca', cb)]).length = D.length + 1 from by simp only [List.length_append, List.length_cons, List.length_nil]]; exact hown9))
              have HX9 := Lib.hid hx9
              clear hown9 hx9 hkt
              go_wp2_with fail
              exact ⟨⟨i + 1, D ++ [(ca', cb)] ++ [(a, b)], by simp, by omega, HO, HX9, Lib.hid ⟨by have := HM.out.1; rw [HDR.out, mrgA_snoc, mrgR, if_neg hle] at this; rw [mrgA_snoc, ← this, List.append_assoc]; rfl, by have := HM.out.2.1; simp only [List.length_append, List.length_cons, List.length_nil] at this ⊢; omega, fun x hx => by
                rcases List.mem_append.1 hx with hx | hx
                · exact HM.out.2.2 x (hx)
                · rw [List.mem_singleton] at hx
                  exact hx ▸ HRG.out⟩⟩, by simp only [intOf]; omega⟩
        · have hI : ¬ ((i : Nat) : Int) < (l.length : Nat) := by omega
          have hd : decide (i < l.length) = false := decide_eq_false hlt
          have HE := Lib.hid (show D = normR l by
            have := HM.out.1
            rw [List.drop_of_length_le (by have := HSL.out; omega), mrgA_end] at this
            rw [HN.out, this])
          clear hlt hi
          go_wp2_with fail
          exact ret_one rfl rfl rfl ⟨_, rfl, by rw [← HE.out]; exact own_lower HR.out HX2.out.sz, HX2.out.trans HXX.out⟩
end Go.Proofs.YtlmkbldiicbejaaGreatDoor
end
