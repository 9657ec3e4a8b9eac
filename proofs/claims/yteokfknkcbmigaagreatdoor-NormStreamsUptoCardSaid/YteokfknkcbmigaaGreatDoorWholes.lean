/-
 How many bytes of an empty text are whole runes. Nothing written to a stream that holds nothing. Slices of texts: how long they are; all of them, one behind the other.
-/
import Derived.Test.YteokfknkcbmigaaGreatDoorWalkXY
import Derived.Laws.AppendOwnNone
import Derived.Test.YteokfknkcbmigaaGreatDoorLawsA
import Derived.Laws.BytesArg
import Derived.Laws.IdiomStrings
section
namespace Go.Proofs.YteokfknkcbmigaaGreatDoor
open Go.RowKit Go.Rp Go.Shelf Go.Maps Go.Nm

/-- What stands at the loop's head, where nothing is held; and behind it. -/
def Mk0 (xB : Nat) (w : World) (a : Act) (W : World) : Prop :=
 ∃ (u8 u9 u10 u11 u12 u13 u14 u15 u16 u17 u18 u19 u20 u21 u22 u23 u24 u25 u26 u27 u28 u29 u30 u31 u32 u33 u34 u35 u36 u37 u38 u39 u40 u41 u42 u43 u44 u45 u46 u47 u48 u49 u50 u51 u52 u53 u54 u55 u56 u57 u58 u59 u60 u61 u62 u63 u64 u65 u66 : Value), a = { tmps := #[.pointer (some ⟨xB, 0, none⟩), .bool false, undef, undef, .slice none 0 0, .slice none 0 0, .int .i64 0, .slice none 0 0, u8, u9, u10, u11, u12, u13, u14, u15, u16, u17, u18, u19, u20, u21, u22, u23, u24, u25, u26, u27, u28, u29, u30, u31, u32, u33, u34, u35, u36, u37, u38, u39, u40, u41, u42, u43, u44, u45, u46, u47, u48, u49, u50, u51, u52, u53, u54, u55, u56, u57, u58, u59, u60, u61, u62, u63, u64, u65, u66], defers := [] } ∧ Ext w W
set_option maxRecDepth 100000 in
set_option maxHeartbeats 8000000 in
theorem c_marks0 (xB : Nat) (w : World) (hbk : w.heap[xB]? = some (.cells #[.slice none 0 0, .int .i64 0] 128 (0, 0))) :
  Calls Tryz.prog 84 #[.pointer (some ⟨xB, 0, none⟩), .bool false] w fun e w' => ∃ u v', e = .returned u ∧ w'.heap[xB]? = some (.cells #[v', .int .i64 0] 128 (0, 0)) ∧ (∃ p c, v' = .slice p 0 c) ∧ w.grownBy w' (some xB) := by
 obtain ⟨j0, hj0, hy0, hy1, hy3⟩ := info_parts info_u8
 have HBK := Lib.hid hbk
 have c0 : ∀ w', EOn (fun _ => True) w w' → w'.cell? ⟨xB, 0, none⟩ = some (.slice none 0 0) := fun w' h => h.cell trivial ((cell_blk hbk 0).trans rfl)
 have c1 : ∀ w', EOn (fun _ => True) w w' → w'.cell? ⟨xB, 1, none⟩ = some (.int .i64 0) := fun w' h => h.cell trivial ((cell_blk hbk 1).trans rfl)
 clear hbk
 go_enter Tryz.func84, Tryz.ntmps84
 go_wp2_with fail
 refine wp_scope_two' 0 1 (Mk0 xB w) (Mk0 xB w) (fun _ _ => 0) rfl rfl ?first ?pass ?last
 case first =>
  intro pass
  have HP := Lib.hid pass
  clear pass
  go_wp2_with fail
  refine wp_lex (fun _ => True) [true, true, true, true, true, true, true, true, true, true, true] (by kernel_rfl) (by kernel_rfl) ?_
  repeat first
   | refine wpG_move' ?_
   | refine wpG_assign' ?_
   | refine wpG_val' ?_
   | refine wpG_no' ?_
  refine wpG_end (fun w5 hx5 => ?_)
  have d0 := hx5.cell (c0 w (EOn.refl _ _))
  clear c0 c1
  go_wp2_with fail
  refine gQ_normal ?_
  go_wp2_with fail
  go_step3
  rename_i K0 hK0
  refine hK0 _ _ ?_
  refine wp_as_pass (HP.out _ _ ?_) (fun _ _ h => And.left h)
  exact ⟨_, _, _, _, _, _, _, _, _, _, _, _, _, _, _, _, _, _, _, _, _, _, _, _, _, _, _, _, _, _, _, _, _, _, _, _, _, _, _, _, _, _, _, _, _, _, _, _, _, _, _, _, _, _, _, _, _, _, _, rfl, hx5⟩
 case pass =>
  rintro a W ⟨u8, u9, u10, u11, u12, u13, u14, u15, u16, u17, u18, u19, u20, u21, u22, u23, u24, u25, u26, u27, u28, u29, u30, u31, u32, u33, u34, u35, u36, u37, u38, u39, u40, u41, u42, u43, u44, u45, u46, u47, u48, u49, u50, u51, u52, u53, u54, u55, u56, u57, u58, u59, u60, u61, u62, u63, u64, u65, u66, rfl, hx⟩
  clear c0 c1
  go_wp2_with fail
  go_step3
  exact .inr ⟨rfl, _, _, _, _, _, _, _, _, _, _, _, _, _, _, _, _, _, _, _, _, _, _, _, _, _, _, _, _, _, _, _, _, _, _, _, _, _, _, _, _, _, _, _, _, _, _, _, _, _, _, _, _, _, _, _, _, _, _, _, rfl, hx⟩
 case last =>
  rintro a W ⟨u8, u9, u10, u11, u12, u13, u14, u15, u16, u17, u18, u19, u20, u21, u22, u23, u24, u25, u26, u27, u28, u29, u30, u31, u32, u33, u34, u35, u36, u37, u38, u39, u40, u41, u42, u43, u44, u45, u46, u47, u48, u49, u50, u51, u52, u53, u54, u55, u56, u57, u58, u59, u60, u61, u62, u63, u64, u65, u66, rfl, hx⟩
  clear c0 c1
  have hbW := hx.blk HBK.out
  have hxb : xB < w.heap.size := blk_lt HBK.out
  go_wp2_with (at_builtin; refine Hid.out ?_)
  refine Lib.hid ?_
  have hx7 := hx.alloc (.cells #[] 5)
  have hbk7 := World.alloc_heap_new W (.cells #[] 5)
  have hb7 := ((Ext.refl W).alloc (.cells #[] 5)).blk hbW
  generalize W.alloc (.cells #[] 5) = w7 at hx7 hbk7 hb7 ⊢
  have hrow7 : w7.ownsRow W.heap.size 5 1 (.slice (some ⟨W.heap.size, 0, none⟩) 0 0) 0 [] := ⟨rfl, .inr ⟨_, 0, #[], rfl, Nat.le_refl _, hbk7, Nat.le_refl _, Nat.zero_le _, rfl, rfl⟩⟩
  refine wpList_append_own_none rfl (.tmp 61) (.tmp 62) 38 rfl W.heap.size 5 j0 1 Tryz.underlying38 hj0 _ 0 [] rfl hrow7 rfl ?_
  have d0 : w7.cell? ⟨xB, 0, none⟩ = some (.slice none 0 0) := (cell_blk hb7 0).trans rfl
  have f0 := frz_blk hb7 0
  have hset := set_blk hb7 0 (.slice (some ⟨W.heap.size, 0, none⟩) 0 0)
  have hgs := (ext_grown hx7 (some xB)).trans (grown_set w7 xB 0 (.slice (some ⟨W.heap.size, 0, none⟩) 0 0))
  have HS := Lib.hid (And.intro hset hgs)
  clear hset hgs hx7 hb7 hbk7 hrow7 hxb hbW hx
  go_wp2_with fail
  rw [Exit.noGoto_ret]
  go_ret
  exact ⟨_, _, rfl, HS.out.1, ⟨_, _, rfl⟩, HS.out.2⟩
set_option maxRecDepth 100000 in
set_option maxHeartbeats 8000000 in
theorem c_Feed0 (xB pc : Nat) (pb : Addr) (W0 w : World) (hx0 : Ext W0 w) (hxB : W0.heap.size ≤ xB) (hbk : w.heap[xB]? = some (.cells #[.slice none 0 0, .int .i64 0] 128 (0, 0))) :
  Calls Tryz.prog 65 #[.pointer (some ⟨xB, 0, none⟩), .slice (some pb) 0 pc] w fun e w' => ∃ u v', e = .returned u ∧ w'.heap[xB]? = some (.cells #[v', .int .i64 0] 128 (0, 0)) ∧ (∃ p c, v' = .slice p 0 c) ∧ Ext W0 w' := by
 obtain ⟨j0, hj0, hy0, hy1, hy3⟩ := info_parts info_u8
 have d0 : w.cell? ⟨xB, 0, none⟩ = some (.slice none 0 0) := (cell_blk hbk 0).trans rfl
 have HBK := Lib.hid hbk
 clear hbk
 go_enter Tryz.func65, Tryz.ntmps65
 go_wp2_with (at_builtin; refine Hid.out ?_)
 refine Lib.hid ?_
 refine wpList_append_own _ rfl (.tmp 11) (.tmp 12) 38 rfl w.heap.size 5 j0 (.int .u8 0) 1 1 Tryz.underlying38 hj0 hy0 hy1 hy3 rfl (by decide) _ 0 [] rfl (World.ownsRow_nil _ _ _ _) pb 0 pc [] rfl rfl (fun j u hu => by cases hu) (by intro u hu; cases hu) (by unfold maxLen; omega) (by omega) (Nat.le_refl _) ?_
 intro v' w8 hown8 hgrow8 hv8
 obtain rfl := hv8.2 ⟨rfl, rfl⟩
 have hx8 : Ext w w8 := Below.grown (Ext.refl w) hgrow8 (Nat.le_refl _) (fun k e => by cases e)
 have hb8 := hx8.blk HBK.out
 have f0 := frz_blk hb8 0
 have d8 : w8.cell? ⟨xB, 0, none⟩ = some (.slice none 0 0) := (cell_blk hb8 0).trans rfl
 have hb9 := set_blk hb8 0 (.slice none 0 0)
 have hx9 := (hx0.trans hx8).setCell (p := ⟨xB, 0, none⟩) hxB (.slice none 0 0)
 have f1 := frz_blk hb9 1
 have e1 : (w8.setCell ⟨xB, 0, none⟩ (.slice none 0 0)).cell? ⟨xB, 1, none⟩ = some (.int .i64 0) := (cell_blk hb9 1).trans rfl
 have hb10 := set_blk hb9 1 (.int .i64 0)
 have hx10 := hx9.setCell (p := ⟨xB, 1, none⟩) hxB (.int .i64 0)
 have H10 := Lib.hid (And.intro hb10 hx10)
 clear hb10 hx10 hx9 hb9 hb8 hx8 hown8 hgrow8 hv8
 go_wp2_with fail
 generalize (w8.setCell ⟨xB, 0, none⟩ (.slice none 0 0)).setCell ⟨xB, 1, none⟩ (.int .i64 0) = w10 at H10 ⊢
 refine (c_marks0 xB w10 H10.out.1).mono ?_
 rintro e w11 ⟨u, v', rfl, hb11, hv11, hg11⟩
 have HE := Lib.hid (show Ext W0 w11 from Below.grown H10.out.2 hg11 H10.out.2.sz (fun k e => by have h3 := Option.some.inj e; omega))
 have HF := Lib.hid (And.intro hb11 hv11)
 clear hb11 hv11 hg11 f0 d8 f1 e1 d0
 go_wp2_with fail
 go_ret
 exact ⟨_, _, rfl, HF.out.1, HF.out.2, HE.out⟩
end Go.Proofs.YteokfknkcbmigaaGreatDoor
end

section
namespace Go.Proofs.YteokfknkcbmigaaGreatDoor
open Go.RowKit Go.Rp Go.Shelf Go.Maps Go.Nm

set_option maxRecDepth 100000 in
set_option maxHeartbeats 8000000 in
theorem c_whole0 (s : ByteArray) (w : World) (h0 : s.size = 0) :
  Calls Tryz.prog 41 #[.string s] w fun e w' => e = .returned (.int .i64 0) ∧ Ext w w' := by
 have hs0 : ((s.size : Nat) : Int) = 0 := by omega
 go_enter Tryz.func41, Tryz.ntmps41
 go_wp2_with fail
 obtain ⟨t, ht⟩ : ∃ t, s.extract (max (0 : Int) (-3)).toNat 0 = t := ⟨_, rfl⟩
 rw [ht]
 have htl : t.size = 0 := by
  have := congrArg ByteArray.size ht
  rw [ByteArray.size_extract] at this
  omega
 have hcv := fun w => Lib.run_convert_string_bytes (P := Tryz.prog) w 9 38 5 t Tryz.underlying9 Tryz.underlying38 Tryz.underlying5
 rw [htl] at hcv
 have HT := Lib.hid htl
 clear ht htl
 refine (c_NewScanner w).mono ?_
 rintro e w1 ⟨rfl, rfl⟩
 have hb1 := World.alloc_heap_new w (.cells #[.slice none 0 0, .int .i64 0] 128)
 have hx1 := (Ext.refl w).alloc (.cells #[.slice none 0 0, .int .i64 0] 128)
 generalize w.alloc (.cells #[.slice none 0 0, .int .i64 0] 128) = w1 at hb1 hx1 ⊢
 obtain ⟨xB, hxB⟩ : ∃ xB, w.heap.size = xB := ⟨_, rfl⟩
 have HXB := Lib.hid (show w.heap.size ≤ xB by omega)
 rw [hxB] at hb1 ⊢
 have H1 := Lib.hid (And.intro hb1 hx1)
 clear hb1 hx1 hxB
 go_wp2_with fail
 obtain ⟨hxb, hcb⟩ := bytes_of w1 5 t
 generalize Lib.bytesWorld w1 5 t = w2 at hxb hcb ⊢
 have hfd := fun pb pc => c_Feed0 xB pc pb w w2 (H1.out.2.trans hxb) HXB.out (hxb.blk H1.out.1)
 refine (hfd _ _).mono ?_
 rintro e w3 ⟨u, v', rfl, hb3, ⟨p3, c3, rfl⟩, hx3⟩
 have H3 := Lib.hid (And.intro hb3 hx3)
 clear hb3 hx3 hfd hcb hxb hcv
 go_wp2_with fail
 refine (c_ScHeld xB 0 c3 p3 _ w3 H3.out.1).mono ?_
 rintro e w4 ⟨rfl, e4⟩
 obtain rfl := e4.symm
 clear e4
 go_wp2_with fail
 go_ret
 exact ⟨rfl, H3.out.2⟩
set_option maxRecDepth 100000 in
set_option maxHeartbeats 8000000 in
theorem c_Write0 (W1 : World × World) (nb tB xB pb pc : Nat) (f : Int) (ws : ByteArray) (w : World) (hws : ws.size = 0) (h : StrAt W1 nb tB xB f ws w) :
  Calls Tryz.prog 21 #[.pointer (some ⟨xB, 0, none⟩), .slice (some ⟨pb, 0, none⟩) 0 pc] w fun e w' => e = .returned (.string ⟨#[]⟩) ∧ StrAt W1 nb tB xB f ws w' := by
 have d2 : ∀ w', EOn (fun _ => True) w w' → w'.cell? ⟨xB, 2, none⟩ = some (.string ws) := fun w' hx => hx.cell trivial ((cell_blk h.blk 2).trans rfl)
 have hcv : ∀ w', EOn (fun _ => True) w w' → (convert 38 9 (.slice (some ⟨pb, 0, none⟩) 0 pc)).run Tryz.prog w' = .ok (.string ⟨#[]⟩) w' := fun w' hx =>
  run_convert_bytes_back (P := Tryz.prog) w' 38 9 5 ⟨pb, 0, none⟩ pc [] Tryz.underlying38 Tryz.underlying5 Tryz.underlying9 (fun j hj => by cases hj)
 have hvs : ws ++ (⟨#[]⟩ : ByteArray) = ws := by
  refine ByteArray.ext (Array.toList_inj.1 ?_)
  simp
 obtain ⟨ps, hps⟩ : ∃ ps, (⟨#[]⟩ : ByteArray) = ps := ⟨_, rfl⟩
 simp only [hps] at hcv
 rw [hps] at hvs ⊢
 have HPS := Lib.hid hps
 have HBIG := Lib.hid (show ws.size + ps.size ≤ 1000000 by
  have := congrArg ByteArray.size hvs
  rw [ByteArray.size_append] at this
  omega)
 clear hps
 have HS := Lib.hid h
 have HV := Lib.hid hws
 have HVS := Lib.hid hvs
 clear h hws hvs
 go_enter Tryz.func21, Tryz.ntmps21
 go_wp2_with fail
 refine wp_reck (fun _ => True) [0, 1, 2, 4] [3, 5, 6, 7, 8, 9] [true, true] (by kernel_rfl) (by kernel_rfl) (by simp only [List.map_cons, List.map_nil, nth]; rfl) (by simp only [List.map_cons, List.map_nil, nth]; rfl) (fun wq hxq => ?_)
 repeat first
  | refine wpP_move' ?_
  | refine wpP_val' ?_
 refine wpP_end ?_
 replace d2 := fun w' hx => d2 w' (EOn.trans (EOn.of_ext hxq) hx)
 replace hcv := fun w' hx => hcv w' (EOn.trans (EOn.of_ext hxq) hx)
 repeat first
  | refine wpG_move' ?_
  | refine wpG_assign' ?_
  | refine wpG_val' ?_
  | refine wpG_no' ?_
 refine wpG_end (fun w6 hx6 => ?_)
 have hS6 := HS.out.more (hxq.trans hx6)
 have e2 : w6.cell? ⟨xB, 2, none⟩ = some (.string ws) := (cell_blk hS6.blk 2).trans rfl
 have f2 := frz_blk hS6.blk 2
 have hvs := HVS.out
 have HS7 := Lib.hid (hS6.put ws)
 clear hxq hx6 d2 hcv HS hS6
 go_wp2_with fail
 ·rename_i hbig
  exfalso
  have := HBIG.out
  omega
 rename_i hsmall
 clear hsmall
 refine gQ_normal ?_
 clear hvs e2 f2
 generalize w6.setCell ⟨xB, 2, none⟩ (.string ws) = w7 at HS7 ⊢
 have e2 : ∀ w', EOn (fun _ => True) w7 w' → w'.cell? ⟨xB, 2, none⟩ = some (.string ws) := fun w' hx => hx.cell trivial ((cell_blk HS7.out.blk 2).trans rfl)
 have HWH := Lib.hid (fun w' => c_whole0 ws w' HV.out)
 obtain ⟨us, hus⟩ : ∃ us, ws.extract 0 0 = us := ⟨_, rfl⟩
 have husz : us.size = 0 := by
  have := congrArg ByteArray.size hus
  rw [ByteArray.size_extract] at this
  omega
 have HU := Lib.hid husz
 clear husz
 go_wp2_with fail
 refine wp_lex (fun _ => True) [true, true, true, true, true, true, true, true, false, true, true] (by kernel_rfl) (by kernel_rfl) ?_
 repeat first
  | refine wpG_move' ?_
  | refine wpG_assign' ?_
  | refine wpG_val' ?_
  | refine wpG_no' ?_
 refine wpG_do (by rfl) (fun w8 hx8 K hK => ?_)
 go_wp2_with fail
 refine (HWH.out w8).mono ?_
 rintro e w9 ⟨rfl, hx9⟩
 refine hK _ _ ⟨EOn.of_ext hx9, ?_⟩
 clear hK
 repeat first
  | refine wpG_move' ?_
  | refine wpG_assign' ?_
  | refine wpG_val' ?_
  | refine wpG_no' ?_
 refine wpG_end (fun w10 hx10 => ?_)
 have HS10 := Lib.hid (HS7.out.more (hx8.trans (hx9.trans hx10)))
 clear hx8 hx9 hx10 e2 HWH HS7
 go_wp2_with fail
 refine gQ_normal ?_
 go_wp2_with fail
 have HBK := Lib.hid (show Calls Tryz.prog 42 #[.string ByteArray.empty, .int .i64 0] w10 fun e w' => e = .returned (.int .i64 0) ∧ Ext w10 w' from by
  have h := c_Back ByteArray.empty 0 w10 (HS10.out.tabs.ext HS10.out.ext) (by show 0 ≤ _; omega) (Nat.zero_le _)
  rw [show eb ByteArray.empty.data.toList (0 - 1) = 0 from Nat.le_zero.1 (eb_le _ _)] at h
  exact h)
 refine HBK.out.mono ?_
 rintro e w11 ⟨rfl, hx11⟩
 have HS11 := Lib.hid (HS10.out.more hx11)
 clear hx11 HS10 HBK
 go_wp2_with fail
 go_loopw [6] (fun iv W => iv = .int .i64 0 ∧ Hid (StrAt W1 nb tB xB f ws W)) (fun _ _ => 0)
 case atStart => exact ⟨rfl, HS11⟩
 case round =>
  clear HS11
  obtain ⟨rfl, HSW⟩ := hrel
  go_wp2_with fail
  refine wp_lex (fun _ => True) [true, true, true, true, true, true, true, true, true, true, true, true, true, true, true, true] (by kernel_rfl) (by kernel_rfl) ?_
  repeat first
   | refine wpG_move' ?_
   | refine wpG_assign' ?_
   | refine wpG_val' ?_
   | refine wpG_no' ?_
  refine wpG_end (fun w12 hx12 => ?_)
  have HS12 := Lib.hid (HSW.out.more hx12)
  clear hx12 HSW
  go_wp2_with fail
  refine gQ_normal ?_
  go_wp2_with fail
  go_ret
  exact ⟨by rw [← HPS.out]; rfl, HS12.out⟩
end Go.Proofs.YteokfknkcbmigaaGreatDoor
end

section
namespace Go.Proofs.YteokfknkcbmigaaGreatDoor
open Go.RowKit Go.Rp Go.Shelf Go.Maps Go.Nm

/-- A slice of texts. -/
def StrRow (w : World) (v : Value) (l : List ByteArray) : Prop :=
 ∃ p cap, v = .slice p l.length cap ∧ (l ≠ [] → ∃ b off, p = some ⟨b, off, none⟩ ∧ b < w.heap.size ∧ ∀ i (h : i < l.length), w.cell? ⟨b, off + i, none⟩ = some (.string l[i]))
theorem StrRow.mono {w w' : World} {v : Value} {l : List ByteArray} (hx : Ext w w') (h : StrRow w v l) : StrRow w' v l := by
 obtain ⟨p, cap, rfl, h2⟩ := h
 refine ⟨p, cap, rfl, fun hne => ?_⟩
 obtain ⟨b, off, rfl, hb, hc⟩ := h2 hne
 exact ⟨b, off, rfl, Nat.lt_of_lt_of_le hb hx.sz, fun i hi => hx.cell (hc i hi)⟩
theorem StrRow.form {w : World} {v : Value} {l : List ByteArray} (h : StrRow w v l) : ∃ p cap, v = .slice p l.length cap := by
 obtain ⟨p, cap, rfl, _⟩ := h
 exact ⟨p, cap, rfl⟩

def total : List ByteArray → Nat
 | [] => 0
 | s :: l => s.size + total l
theorem total_append (a b : List ByteArray) : total (a ++ b) = total a + total b := by
 induction a with
 | nil => simp [total]
 | cons s l ih => simp [total, ih]; omega
theorem total_step (l : List ByteArray) (k : Nat) (h : k < l.length) : total (l.take (k + 1)) = total (l.take k) + l[k].size := by
 rw [List.take_succ_eq_append_getElem h, total_append]
 simp [total]
theorem total_le (l : List ByteArray) (m : Nat) (h : ∀ s ∈ l, s.size ≤ m) : total l ≤ m * l.length := by
 induction l with
 | nil => simp [total]
 | cons s l ih =>
  have h1 := h s (by simp)
  have h2 := ih (fun x hx => h x (by simp [hx]))
  simp only [total, List.length_cons, Nat.mul_succ]
  omega
theorem total_take (l : List ByteArray) (k : Nat) : total (l.take k) ≤ total l := by
 have := total_append (l.take k) (l.drop k)
 rw [List.take_append_drop] at this
 omega
set_option maxRecDepth 100000 in
set_option maxHeartbeats 1000000 in
/-- Are texts too many, or too long? -/
theorem c_long (v : Value) (l : List ByteArray) (b : Bool) (w : World) (h : StrRow w v l) (hs : ∀ s ∈ l, s.size ≤ 140737488351232) (hb : b = true ↔ (100 < l.length ∨ 90 < total l)) :
  Calls Tryz.prog 15 #[v] w fun e w' => e = .returned (.bool b) ∧ Ext w w' := by
 obtain ⟨p, cap, rfl, hc⟩ := h
 have HB := Lib.hid hb
 have HC := Lib.hid hc
 have HS := Lib.hid hs
 clear hb hc hs
 go_enter Tryz.func15, Tryz.ntmps15
 go_wp2_with fail
 go_loop [3, 4] (fun x y => ∃ k : Nat, y = .int .i64 (k : Nat) ∧ k ≤ l.length ∧ k ≤ 101 ∧ x = .int .i64 (total (l.take k) : Nat)) (fun _ y => 102 - (intOf y).toNat)
 case atStart => exact ⟨0, rfl, by omega, by omega, rfl⟩
 case round =>
  obtain ⟨k, rfl, h1, h2, rfl⟩ := hrel
  have hle : total (l.take k) ≤ 140737488351232 * 101 := by
   have := total_le (l.take k) 140737488351232 (fun s hs => HS.out s (List.mem_of_mem_take hs))
   rw [List.length_take] at this
   have h3 : 140737488351232 * min k l.length ≤ 140737488351232 * 101 := Nat.mul_le_mul_left _ (by omega)
   omega
  by_cases hlt : k < l.length
  ·by_cases h100 : k ≤ 100
   ·obtain ⟨b', off, rfl, hb', hcell⟩ := HC.out (by intro e; subst e; simp at hlt)
    have hk := hcell k hlt
    have hz := HS.out l[k] (List.getElem_mem hlt)
    have hst := total_step l k hlt
    have HT := Lib.hid hst
    clear hcell hst
    go_wp2_with fail
    go_round
    case rel => exact ⟨k + 1, by go_num, by omega, by omega, by rw [HT.out]; go_num⟩
    case measure => simp [intOf]; omega
   ·have hb2 : b = true := HB.out.2 (.inl (by omega))
    have hl2 : (100 : Int) < (l.length : Nat) := by omega
    subst hb2
    go_wp2_with fail
    go_ret
    exact ⟨rfl, Ext.refl _⟩
  ·have hkl : k = l.length := by omega
   have htk : total (l.take k) = total l := by rw [hkl, List.take_length]
   by_cases h100 : 100 < l.length
   ·have hb2 : b = true := HB.out.2 (.inl h100)
    have hl2 : (100 : Int) < (l.length : Nat) := by omega
    subst hb2
    clear htk
    go_wp2_with fail
    go_ret
    exact ⟨rfl, Ext.refl _⟩
   ·have hl2 : ¬ (100 : Int) < (l.length : Nat) := by omega
    have hbb : decide ((90 : Int) < (total l : Nat)) = b := by
     cases b with
     | true => exact decide_eq_true (by have := (HB.out.1 rfl).resolve_left h100; omega)
     | false => exact decide_eq_false (fun hh => by have := HB.out.2 (.inr (by omega)); cases this)
    have HBB := Lib.hid hbb
    clear hbb
    subst hkl
    rw [List.take_length] at hle htk
    clear htk
    go_wp2_with fail
    go_ret
    refine ⟨?_, Ext.refl _⟩
    rw [← HBB.out]
    first | rfl | (rw [List.take_length]; rfl)

/-- All texts, one behind the other. -/
def glueL (l : List ByteArray) : List UInt8 := l.flatMap fun s => s.data.toList
theorem glueL_step (l : List ByteArray) (k : Nat) (h : k < l.length) : glueL (l.take (k + 1)) = glueL (l.take k) ++ l[k].data.toList := by
 unfold glueL
 rw [List.take_succ_eq_append_getElem h, List.flatMap_append]
 simp
theorem glueL_len (l : List ByteArray) : (glueL l).length = total l := by
 induction l with
 | nil => rfl
 | cons s l ih =>
  show (s.data.toList ++ glueL l).length = _
  rw [List.length_append, len_eq, ih]
  rfl
theorem conv_rowT {W : World} {B : Nat} {v : Value} {F : List UInt8} (h : W.ownsRow B 5 1 v F.length (Lib.byteCells F)) : ∀ w', EOn (fun _ => True) W w' → (convert 38 9 v).run Tryz.prog w' = .ok (.string ⟨F.toArray⟩) w' := fun w' hx => by
 obtain ⟨p, c, rfl⟩ := own_slice h
 by_cases h0 : F = []
 ·subst h0
  rcases h.2 with ⟨e, _⟩ | ⟨g, cap', cur, e, _⟩
  ·cases e
   exact run_convert_bytes_nil (P := Tryz.prog) w' 38 5 Tryz.underlying38 Tryz.underlying5 _ _ _ Tryz.underlying9
  ·cases e
   exact run_convert_bytes_back (P := Tryz.prog) w' 38 9 5 _ _ [] Tryz.underlying38 Tryz.underlying5 Tryz.underlying9 (fun j hj => by cases hj)
 ·have hl : 0 < F.length := List.length_pos_iff.2 h0
  obtain ⟨g, rfl, _, _, hg⟩ := own_at h hl
  exact run_convert_bytes_back (P := Tryz.prog) w' 38 9 5 ⟨g, 0, none⟩ c F Tryz.underlying38 Tryz.underlying5 Tryz.underlying9 (fun j hj => by
   have hadd : (⟨g, 0, none⟩ : Addr).add j = ⟨g, j, none⟩ := by unfold Addr.add; split <;> simp_all
   rw [hadd]
   refine hx.cell trivial ((hg j (by omega)).trans ?_)
   simp [Lib.byteCells, List.getElem?_eq_getElem hj])
set_option maxRecDepth 100000 in
set_option maxHeartbeats 4000000 in
theorem c_wholeT (v : Value) (l : List ByteArray) (w : World) (h : StrRow w v l) (ht : total l ≤ 1000000) (hn : l.length ≤ 1000000) :
  Calls Tryz.prog 24 #[v] w fun e w' => e = .returned (.string ⟨(glueL l).toArray⟩) ∧ Ext w w' := by
 obtain ⟨i0, hi0, hz0, hz1, hz3⟩ := info_parts info_u8
 obtain ⟨p, cap, rfl, hc⟩ := h
 have HC := Lib.hid hc
 have HN := Lib.hid (And.intro ht hn)
 have hnI : ((l.length : Nat) : Int) ≤ 1000000 := by omega
 clear hc ht hn
 go_enter Tryz.func24, Tryz.ntmps24
 go_wp2_with fail
 go_loopw [3, 4] (fun bv iv W => ∃ k : Nat, iv = .int .i64 (k : Nat) ∧ k ≤ l.length ∧ W.ownsRow w.heap.size 5 1 bv (glueL (l.take k)).length (Lib.byteCells (glueL (l.take k))) ∧ Ext w W) (fun _ iv _ => l.length + 1 - (intOf iv).toNat)
 case atStart => exact ⟨0, rfl, by omega, World.ownsRow_nil _ _ _ _, Ext.refl _⟩
 case round =>
  obtain ⟨k, rfl, hk, hown, hx⟩ := hrel
  by_cases hlt : k < l.length
  ·have hd : decide (k < l.length) = true := decide_eq_true hlt
   have hI : ((k : Nat) : Int) < (l.length : Nat) := by omega
   obtain ⟨b', off, rfl, hb', hcell⟩ := HC.out (by intro e; subst e; simp at hlt)
   have hck := hx.cell (hcell k hlt)
   have HST := Lib.hid (And.intro (glueL_step l k hlt) hlt)
   have HLN := Lib.hid (show (glueL (l.take k)).length + l[k].size ≤ 1000000 by
    have h1 := total_step l k hlt
    have h2 := total_take l (k + 1)
    have h3 := HN.out.1
    rw [glueL_len]
    omega)
   have HX := Lib.hid hx
   have hsz := hx.sz
   clear hcell
   generalize l[k] = s at hck HST HLN
   go_wp2_with (at_builtin; refine Lib.wpList_append_own_string _ rfl _ _ 38 9 rfl w.heap.size 5 i0 Tryz.underlying38 Tryz.underlying9 hi0 hz0 hz1 hz3 _ _ _ rfl hown s rfl ?c3 ?c4 ?c5 ?_)
   case c3 => have := HLN.out; unfold maxLen; omega
   case c4 => have := HLN.out; omega
   case c5 => omega
   intro v' w6 hown6 hgrow6 _
   have hx6 := Below.grown HX.out hgrow6 hsz (fun k e => (hown.lt k e).1)
   have HO6 := Lib.hid (And.intro hown6 hx6)
   clear hown6 hx6 hgrow6 hown hx hsz hck
   go_wp2_with fail
   refine ⟨⟨k + 1, by simp, by have := HST.out.2; omega, ?_, HO6.out.2⟩, by have := HST.out.2; simp [intOf]; omega⟩
   have h6 := HO6.out.1
   rw [HST.out.1, List.length_append, len_eq]
   simpa [Lib.byteCells, Lib.strCells_eq] using h6
  ·have hd : decide (k < l.length) = false := decide_eq_false hlt
   have hI : ¬ ((k : Nat) : Int) < (l.length : Nat) := by omega
   obtain rfl : k = l.length := by omega
   have HX := Lib.hid hx
   rw [List.take_length] at hown
   have hcv := conv_rowT hown _ (EOn.refl _ _)
   clear hx hown hk hlt
   go_wp2_with fail
   go_ret
   exact ⟨rfl, HX.out⟩
end Go.Proofs.YteokfknkcbmigaaGreatDoor
end
