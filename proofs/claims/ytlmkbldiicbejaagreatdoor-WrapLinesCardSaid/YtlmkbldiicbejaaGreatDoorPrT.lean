/-
  A line read; a name's number.
-/
import Derived.Test.YtlmkbldiicbejaaGreatDoorPrQR
namespace Go.Proofs.YtlmkbldiicbejaaGreatDoor
open Go.RowKit Go.Rp Go.Maps Go.Cl Go.Shelf

theorem mem_at {s : ByteArray} {k : Nat} (h : k < s.size) : s[k] ∈ s.data.toList := List.getElem_mem (l := s.data.toList) (n := k) (by rw [len_eq]; exact h)
set_option maxRecDepth 100000 in
set_option maxHeartbeats 4000000 in
theorem c_line (s : ByteArray) (w : World) (hs : s.size ≤ 100000) (h : ∀ x ∈ s.data.toList, x ≠ 39 ∧ x ≠ 35) : Calls Tryz.prog 55 #[.string s] w fun e w' => e = .returned (.string ⟨(trimB s.data.toList).toArray⟩) ∧ Ext w w' := by
  have HF := Lib.hid (c_find s 35 s.size (-1) w hs (fun x hx => (h x hx).1) (Nat.le_refl _) (fun j hj => (h _ (mem_at hj)).2) (.inl ⟨rfl, rfl⟩))
  clear h
  go_enter Tryz.func55, Tryz.ntmps55
  go_wp2_with fail
  refine HF.out.mono ?_
  rintro e w1 ⟨rfl, hx1⟩
  have HX1 := Lib.hid hx1
  clear hx1
  go_wp2_with fail
  refine (c_TrimB s w1 (by omega)).mono ?_
  rintro e w2 ⟨rfl, hx2⟩
  have HX2 := Lib.hid (HX1.out.trans hx2)
  clear hx2
  go_wp2_with fail
  exact ret_one rfl rfl rfl ⟨rfl, HX2.out⟩
set_option maxRecDepth 100000 in
set_option maxHeartbeats 4000000 in
theorem c_number {B : Nat} {db mb : Nat} {nv sv : Value} {N : List (List UInt8)} {S : List (List (Nat × Nat))} (x : List UInt8) (w : World) (h : DbSt B w db mb nv sv N S) (hx : x.length ≤ 32) (hn : x ∉ N) :
    Calls Tryz.prog 74 #[.pointer (some ⟨db, 0, none⟩), .string ⟨x.toArray⟩] w fun e w' => e = .returned (.tuple #[.int .i64 (N.length : Nat), .int .i64 0]) ∧ Ext w w' := by
  have hl := h.look hx hn
  have d0 := (cell_blk h.d 0).trans rfl
  have d1 := (cell_blk h.d 1).trans rfl
  have hk := h.k
  have hkI : ((N.length : Nat) : Int) ≤ 62 := by omega
  obtain ⟨p, cap, rfl⟩ := own_slice h.n
  go_enter Tryz.func74, Tryz.ntmps74
  go_wp2_with fail
  exact ret_two rfl rfl rfl rfl ⟨rfl, Ext.refl _⟩
theorem Tryz.infoStr : (Tryz.prog.info? 9).map (fun i => (i.zero, i.size, i.bytes)) = some (some (.string ByteArray.empty), 1, 16) := by kernel_rfl
theorem Tryz.infoRs : (Tryz.prog.info? 130).map (fun i => (i.zero, i.size, i.bytes)) = some (some (.slice none 0 0), 1, 24) := by kernel_rfl
theorem cut_at {l : List UInt8} (h : (59 : UInt8) ∈ l) : ∃ a b, l = a ++ 59 :: b ∧ (∀ x ∈ a, x ≠ 59) ∧ cutC 59 [] l = (a, b) := by
  rcases parted_at 59 l with h1 | ⟨a, b, rfl, ha⟩
  · exact absurd rfl (h1 59 h)
  · refine ⟨a, b, rfl, ha, ?_⟩
    rw [cutC_pre 59 _ a [] ha, List.nil_append, cutC, if_pos rfl]
theorem bytes_eq {s t : ByteArray} (h : s.data.toList = t.data.toList) : s = t := by
  cases s; cases t
  simp only [ByteArray.mk.injEq]
  exact Array.toList_inj.1 h
/-- What an addition leaves alone. -/
structure AddK (B : Nat) (w w' : World) (db mb : Nat) (nv sv nv' sv' : Value) : Prop where
  below : Below B w w'
  keep : ∀ b o, w.heap[b]? = some o → b ≠ db → b ≠ mb → some b ≠ nv.ownBlock → some b ≠ sv.ownBlock → w'.heap[b]? = some o
  nn : nv'.ownBlock = nv.ownBlock ∨ ∃ g, nv'.ownBlock = some g ∧ w.heap.size ≤ g
  ns : sv'.ownBlock = sv.ownBlock ∨ ∃ g, sv'.ownBlock = some g ∧ w.heap.size ≤ g
theorem row_not_map {W : World} {n : Nat} {e : TypeId} {size k : Nat} {v : Value} {xs : List Value} (h : W.ownsRow n e size v k xs) {m : Nat} {kv : List (Value × Value)} (hm : MapIs W m kv) : v.ownBlock ≠ some m := by
  rcases h.2 with ⟨rfl, _⟩ | ⟨g, cap, cur, rfl, _, hgb, _⟩
  · simp [Value.ownBlock]
  · intro e
    obtain rfl : g = m := by simpa [Value.ownBlock] using e
    obtain ⟨es, ck, hb, _⟩ := hm
    rw [hb] at hgb
    cases hgb
theorem AddK.step {B : Nat} {w W W' : World} {db mb : Nat} {nv0 sv0 nv sv nv' sv' : Value} {r : Option Nat} (h : AddK B w W db mb nv0 sv0 nv sv) (hsz : B ≤ W.heap.size) (hg : W.grownBy W' r) (hr : ∀ b, r = some b → b = db ∨ b = mb ∨ nv.ownBlock = some b ∨ sv.ownBlock = some b) (hB : ∀ b, r = some b → B ≤ b)
    (hn : nv'.ownBlock = nv.ownBlock ∨ nv'.ownBlock = some W.heap.size) (hs : sv'.ownBlock = sv.ownBlock ∨ sv'.ownBlock = some W.heap.size) : AddK B w W' db mb nv0 sv0 nv' sv' := by
  have hww : w.heap.size ≤ W.heap.size := h.below.size
  refine ⟨Below.grown h.below hg hsz hB, fun b o hb h1 h2 h3 h4 => ?_, ?_, ?_⟩
  · have hW := h.keep b o hb h1 h2 h3 h4
    have hbw := blk_lt hb
    refine (hg.block b (blk_lt hW) (fun e => ?_)).trans hW
    rcases hr b e.symm with e1 | e1 | e1 | e1
    · exact h1 e1
    · exact h2 e1
    · rcases h.nn with e2 | ⟨g, e2, e3⟩
      · exact h3 (by rw [← e1, e2])
      · rw [e1] at e2
        have := Option.some.inj e2
        omega
    · rcases h.ns with e2 | ⟨g, e2, e3⟩
      · exact h4 (by rw [← e1, e2])
      · rw [e1] at e2
        have := Option.some.inj e2
        omega
  · rcases hn with e | e
    · rw [e]; exact h.nn
    · exact .inr ⟨_, e, hww⟩
  · rcases hs with e | e
    · rw [e]; exact h.ns
    · exact .inr ⟨_, e, hww⟩
/-- A database in the middle of an addition. -/
structure DbF (B : Nat) (w W : World) (db mb : Nat) (nv0 sv0 nv sv : Value) (kv : List (Value × Value)) (qn : Nat) (ns : List Value) (qm : Nat) (vs : List Value) (S : List (List (Nat × Nat))) : Prop where
  d : W.heap[db]? = some (.cells #[nv, .map (some mb), sv, .slice none 0 0] 104 (0, 0))
  n : W.ownsRow B 9 1 nv qn ns
  m : MapIs W mb kv
  s : W.ownsRow B 130 1 sv qm vs
  h : ∀ (i : Nat) u l, vs[i]? = some u → S[i]? = some l → RHold W u l
  k : AddK B w W db mb nv0 sv0 nv sv
  b : B ≤ db ∧ B ≤ mb
  z : B ≤ W.heap.size
section
variable {B : Nat} {w W W' : World} {db mb : Nat} {nv0 sv0 nv sv : Value} {kv : List (Value × Value)} {n : Nat} {ns : List Value} {m : Nat} {vs : List Value} {S : List (List (Nat × Nat))}
theorem DbF.ext (h : DbF B w W db mb nv0 sv0 nv sv kv n ns m vs S) (hx : Ext W W') : DbF B w W' db mb nv0 sv0 nv sv kv n ns m vs S :=
  ⟨hx.blk h.d, ownsRow_ext h.n hx, h.m.ext hx, ownsRow_ext h.s hx, fun i u l a b => (h.h i u l a b).ext hx, h.k.step h.z (grown_ext hx none) (fun b e => by cases e) (fun b e => by cases e) (.inl rfl) (.inl rfl), h.b, Nat.le_trans h.z hx.sz⟩
/-- The blocks of a database lie apart: their kinds differ. -/
theorem DbF.nb (h : DbF B w W db mb nv0 sv0 nv sv kv n ns m vs S) : db ≠ mb ∧ nv.ownBlock ≠ some db ∧ sv.ownBlock ≠ some db ∧ nv.ownBlock ≠ some mb ∧ sv.ownBlock ≠ some mb ∧ (∀ j, nv.ownBlock = some j → sv.ownBlock ≠ some j) := by
  have hd := h.d
  obtain ⟨es, ck, hm, _⟩ := h.m
  have key : ∀ {T : TypeId} {v : Value} {q : Nat} {xs : List Value} {j : Nat}, W.ownsRow B T 1 v q xs → v.ownBlock = some j → ∃ cur, W.heap[j]? = some (.cells cur T (0, 0)) := by
    intro T v q xs j ho e
    rcases ho.2 with ⟨e1, _⟩ | ⟨g, cap, cur, e1, _, hg, _⟩
    · rw [e1] at e; cases e
    · rw [e1] at e
      obtain rfl : g = j := Option.some.inj e
      exact ⟨cur, hg⟩
  refine ⟨fun e => ?_, fun e => ?_, fun e => ?_, fun e => ?_, fun e => ?_, fun j e1 e2 => ?_⟩
  · rw [e, hm] at hd; cases hd
  · obtain ⟨c, hc⟩ := key h.n e; rw [hd] at hc; cases hc
  · obtain ⟨c, hc⟩ := key h.s e; rw [hd] at hc; cases hc
  · obtain ⟨c, hc⟩ := key h.n e; rw [hm] at hc; cases hc
  · obtain ⟨c, hc⟩ := key h.s e; rw [hm] at hc; cases hc
  · obtain ⟨c, hc⟩ := key h.n e1
    obtain ⟨c', hc'⟩ := key h.s e2
    rw [hc] at hc'
    cases hc'
theorem own_cells {T : TypeId} {v : Value} {q k : Nat} {xs : List Value} {j : Nat} (ho : W.ownsRow B T k v q xs) (e : v.ownBlock = some j) : ∃ cur, W.heap[j]? = some (.cells cur T (0, 0)) := by
  rcases ho.2 with ⟨e1, _⟩ | ⟨g, cap, cur, e1, _, hg, _⟩
  · rw [e1] at e; cases e
  · rw [e1] at e
    obtain rfl : g = j := Option.some.inj e
    exact ⟨cur, hg⟩
theorem DbF.map (h : DbF B w W db mb nv0 sv0 nv sv kv n ns m vs S) {kv' : List (Value × Value)} (hg : W.grownBy W' (some mb)) (hm : MapIs W' mb kv') : DbF B w W' db mb nv0 sv0 nv sv kv' n ns m vs S := by
  obtain ⟨n1, n2, n3, n4, n5, n6⟩ := h.nb
  refine ⟨(hg.block db (blk_lt h.d) (fun e => n1 (Option.some.inj e))).trans h.d, h.n.kept hg (.inr n4), hm, h.s.kept hg (.inr n5), fun i u l a b => (h.h i u l a b).but hg (fun c cs fz hc e => ?_), h.k.step h.z hg (fun b e => .inr (.inl (Option.some.inj e).symm)) (fun b e => by cases e; exact h.b.2) (.inl rfl) (.inl rfl), h.b, Nat.le_trans h.z hg.size⟩
  obtain ⟨es, ck, hm, _⟩ := h.m
  rw [Option.some.inj e, hm] at hc
  cases hc
theorem DbF.names (h : DbF B w W db mb nv0 sv0 nv sv kv n ns m vs S) {nv' : Value} {n' : Nat} {ns' : List Value} (hg : W.grownBy W' nv.ownBlock) (hn : W'.ownsRow B 9 1 nv' n' ns') (hb : nv'.ownBlock = nv.ownBlock ∨ nv'.ownBlock = some W.heap.size) :
    DbF B w (W'.setCell ⟨db, 0, none⟩ nv') db mb nv0 sv0 nv' sv kv n' ns' m vs S := by
  obtain ⟨n1, n2, n3, n4, n5, n6⟩ := h.nb
  have hd : W'.heap[db]? = _ := (hg.block db (blk_lt h.d) (fun e => n2 e.symm)).trans h.d
  have hm : MapIs W' mb kv := h.m.kept hg (fun e => n4 e.symm)
  have hs := h.s.kept hg (by
    cases e : sv.ownBlock with
    | none => exact .inl rfl
    | some j => exact .inr (fun e2 => n6 j e2.symm e))
  have hh : ∀ (i : Nat) u l, vs[i]? = some u → S[i]? = some l → RHold W' u l := fun i u l a b => (h.h i u l a b).but hg (fun c cs fz hc e => by
    obtain ⟨cur, hcur⟩ := own_cells h.n e.symm
    rw [hc] at hcur
    cases hcur)
  have hk := h.k.step (nv' := nv') (sv' := sv) h.z hg (fun b e => .inr (.inr (.inl e))) (fun b e => (h.n.lt b e).1) hb (.inl rfl)
  have hz := Nat.le_trans h.z hg.size
  have g2 := grown_cell W' db 0 nv'
  have nd : nv'.ownBlock ≠ some db := fun e => by
    obtain ⟨cur, hcur⟩ := own_cells hn e
    rw [hd] at hcur
    cases hcur
  exact ⟨set_blk hd 0 nv', hn.kept g2 (.inr nd), hm.kept g2 (fun e => n1 (Option.some.inj e).symm), hs.kept g2 (.inr n3), fun i u l a b => (hh i u l a b).but g2 (fun c cs fz hc e => by
    rw [Option.some.inj e, hd] at hc
    cases hc), hk.step hz g2 (fun b e => .inl (Option.some.inj e).symm) (fun b e => by cases e; exact h.b.1) (.inl rfl) (.inl rfl), h.b, Nat.le_trans hz g2.size⟩
theorem DbF.sets (h : DbF B w W db mb nv0 sv0 nv sv kv n ns m vs S) {sv' : Value} {m' : Nat} {vs' : List Value} {S' : List (List (Nat × Nat))} (hg : W.grownBy W' sv.ownBlock) (hs : W'.ownsRow B 130 1 sv' m' vs') (hb : sv'.ownBlock = sv.ownBlock ∨ sv'.ownBlock = some W.heap.size)
    (hV : ∀ (i : Nat) u l, vs'[i]? = some u → S'[i]? = some l → (vs[i]? = some u ∧ S[i]? = some l) ∨ RHold W' u l) :
    DbF B w (W'.setCell ⟨db, 2, none⟩ sv') db mb nv0 sv0 nv sv' kv n ns m' vs' S' := by
  obtain ⟨n1, n2, n3, n4, n5, n6⟩ := h.nb
  have hd : W'.heap[db]? = _ := (hg.block db (blk_lt h.d) (fun e => n3 e.symm)).trans h.d
  have hm : MapIs W' mb kv := h.m.kept hg (fun e => n5 e.symm)
  have hn := h.n.kept hg (by
    cases e : nv.ownBlock with
    | none => exact .inl rfl
    | some j => exact .inr (fun e2 => n6 j e e2.symm))
  have hh : ∀ (i : Nat) u l, vs'[i]? = some u → S'[i]? = some l → RHold W' u l := fun i u l a b => by
    rcases hV i u l a b with ⟨a', b'⟩ | r
    · exact (h.h i u l a' b').but hg (fun c cs fz hc e => by
        obtain ⟨cur, hcur⟩ := own_cells h.s e.symm
        rw [hc] at hcur
        cases hcur)
    · exact r
  have hk := h.k.step (nv' := nv) (sv' := sv') h.z hg (fun b e => .inr (.inr (.inr e))) (fun b e => (h.s.lt b e).1) (.inl rfl) hb
  have hz := Nat.le_trans h.z hg.size
  have g2 := grown_cell W' db 2 sv'
  have nd : sv'.ownBlock ≠ some db := fun e => by
    obtain ⟨cur, hcur⟩ := own_cells hs e
    rw [hd] at hcur
    cases hcur
  exact ⟨set_blk hd 2 sv', hn.kept g2 (.inr n2), hm.kept g2 (fun e => n1 (Option.some.inj e).symm), hs.kept g2 (.inr nd), fun i u l a b => (hh i u l a b).but g2 (fun c cs fz hc e => by
    rw [Option.some.inj e, hd] at hc
    cases hc), hk.step hz g2 (fun b e => .inl (Option.some.inj e).symm) (fun b e => by cases e; exact h.b.1) (.inl rfl) (.inl rfl), h.b, Nat.le_trans hz g2.size⟩
theorem DbF.put {g c : Nat} (h : DbF B w W db mb nv0 sv0 nv (.slice (some ⟨g, 0, none⟩) m c) kv n ns m vs S) {S' : List (List (Nat × Nat))} (i : Nat) (u : Value)
    (hV : ∀ (j : Nat) z l, (vs.set i u)[j]? = some z → S'[j]? = some l → (vs[j]? = some z ∧ S[j]? = some l) ∨ RHold W z l) :
    DbF B w (W.setCell ⟨g, i, none⟩ u) db mb nv0 sv0 nv (.slice (some ⟨g, 0, none⟩) m c) kv n ns m (vs.set i u) S' := by
  obtain ⟨n1, n2, n3, n4, n5, n6⟩ := h.nb
  have g2 := grown_cell W g i u
  obtain ⟨cur, hcur⟩ := own_cells h.s (j := g) rfl
  refine ⟨(g2.block db (blk_lt h.d) (fun e => n3 e.symm)).trans h.d, h.n.kept g2 ?_, h.m.kept g2 (fun e => n5 e.symm), own_setG h.s u, fun j z l a b => ?_, h.k.step h.z g2 (fun b e => .inr (.inr (.inr e))) (fun b e => (h.s.lt b e).1) (.inl rfl) (.inl rfl), h.b, Nat.le_trans h.z g2.size⟩
  · cases e : nv.ownBlock with
    | none => exact .inl rfl
    | some j => exact .inr (fun e2 => n6 j e (by cases e2; rfl))
  · have hr : RHold W z l := by
      rcases hV j z l a b with ⟨a', b'⟩ | r
      · exact h.h j z l a' b'
      · exact r
    refine hr.but g2 (fun c cs fz hc e => ?_)
    rw [Option.some.inj e, hcur] at hc
    cases hc
end
set_option maxRecDepth 100000 in
set_option maxHeartbeats 8000000 in
theorem c_add {B : Nat} {db mb : Nat} {nv sv : Value} {N : List (List UInt8)} {S : List (List (Nat × Nat))} (l : List UInt8) (w : World) (hT : TabsW w) (h : DbSt B w db mb nv sv N S) (hB : B ≤ w.heap.size) (hok : LineOk l) (hn : (lineP l).2 ∉ N) (hk : N.length + 1 ≤ 62) (hap : ∀ s ∈ S, apartR s (normR (lineP l).1)) (hS : ∀ s ∈ S, s.length ≤ 10000) :
    Calls Tryz.prog 56 #[.pointer (some ⟨db, 0, none⟩), .string ⟨l.toArray⟩] w fun e w' => e = .returned (.int .i64 0) ∧ ∃ nv' sv', DbSt B w' db mb nv' sv' (N ++ [(lineP l).2]) (S ++ [normR (normR (lineP l).1)]) ∧ AddK B w w' db mb nv sv nv' sv' := by
  obtain ⟨a, b, hl, ha, hcut⟩ := cut_at hok.semi
  have hlp : lineP l = ((parseP a.length a).getD [], trimB b) := by unfold lineP; rw [hcut]
  have hrg := hok.rgs
  rw [hcut] at hrg
  have hnam := hok.nam
  have hoth := hok.oth
  have hasc := hok.asc
  have hlen := hok.len
  have hrok := hok.rok
  have hrok2 := hok.rok2
  obtain ⟨R, hR⟩ : ∃ R, (lineP l).1 = R := ⟨_, rfl⟩
  obtain ⟨nm, hnm⟩ : ∃ nm, (lineP l).2 = nm := ⟨_, rfl⟩
  have hnm2 : trimB b = nm := by rw [← hnm, hlp]
  rw [hR] at hrg hrok hrok2 hap ⊢
  rw [hnm] at hnam hoth hn ⊢
  clear hR hnm hlp hcut
  obtain ⟨s, hs⟩ : ∃ s : ByteArray, (⟨l.toArray⟩ : ByteArray) = s := ⟨_, rfl⟩
  have hsl : s.data.toList = a ++ 59 :: b := by rw [← hs, ← hl]
  have hsz : s.size = a.length + (b.length + 1) := by rw [← len_eq, hsl]; simp
  have hsc : ∀ x ∈ s.data.toList, x ≠ 39 ∧ x ≠ 35 ∧ x ≠ 9 := by rw [hsl, ← hl]; exact hasc
  rw [hs]
  have hs6 : s.size ≤ 60000 := by rw [← len_eq, hsl, ← hl]; exact hlen
  have hal : a.length < s.size := by omega
  have HF := Lib.hid (c_find s 59 a.length ((a.length : Nat) : Int) w (by omega) (fun x hx => (hsc x hx).1) (by omega) (fun j hj => by
    rw [byte_at (c := a[j]) (by omega) (by rw [hsl, List.getElem?_append_left hj, List.getElem?_eq_getElem hj])]
    exact ha _ (List.getElem_mem hj)) (.inr ⟨⟨hal, byte_at hal (by rw [hsl, List.getElem?_append_right (Nat.le_refl _), Nat.sub_self]; rfl)⟩, rfl⟩))
  have HA := Lib.hid (show (s.extract 0 a.length).data.toList = a by rw [toList_extract, hsl]; simp)
  have HBX := Lib.hid (show (s.extract (a.length + 1) s.size).data.toList = b by
    rw [toList_extract, hsl, hsz, List.drop_append, List.drop_of_length_le (by omega), List.nil_append, show a.length + 1 - a.length = 1 by omega, List.drop_succ_cons, List.drop_zero, List.take_of_length_le (by omega)])
  have HOK := Lib.hid (And.intro hrg (And.intro hrok (And.intro hrok2 (And.intro hnam (And.intro hoth (And.intro hn (And.intro hap (And.intro hsc hnm2))))))))
  have HD := Lib.hid h
  have HT := Lib.hid hT
  have hBI : ((a.length : Nat) : Int) + 1 ≤ (s.size : Nat) := by omega
  have hBI0 : ((a.length : Nat) : Int) ≤ (s.size : Nat) := by omega
  have hBI1 : ((s.size : Nat) : Int) ≤ 60000 := by omega
  clear hasc hlen hsl hsz hsc hal hs hl ha hrg hrok hrok2 hnam hoth hn hap hnm2 h hT
  go_enter Tryz.func56, Tryz.ntmps56
  go_wp2_with fail
  refine HF.out.mono ?_
  rintro e w1 ⟨rfl, hx1⟩
  have HX1 := Lib.hid hx1
  clear hx1 HF
  go_wp2_with fail
  refine (c_TrimB (s.extract (a.length + 1) s.size) w1 (by simp; omega)).mono ?_
  rw [HBX.out, HOK.out.2.2.2.2.2.2.2.2]
  rintro e w2 ⟨rfl, hx2⟩
  have HX2 := Lib.hid (HX1.out.trans hx2)
  clear hx2 HX1
  go_wp2_with fail
  refine (c_Name ⟨nm.toArray⟩ w2 (by have := HOK.out.2.2.2.1; simpa using this)).mono ?_
  rintro e w3 ⟨rfl, hx3⟩
  have HX3 := Lib.hid (HX2.out.trans hx3)
  clear hx3 HX2
  have hno : (nm == [79, 116, 104, 101, 114]) = false := beq_false_of_ne HOK.out.2.2.2.2.1
  have hno2 : ¬ nm = [79, 116, 104, 101, 114] := HOK.out.2.2.2.2.1
  go_wp2_with fail
  refine (c_ReplT (s.extract 0 a.length) w3 (HT.out.ext HX3.out) (by simp; omega) (fun c hc => by
    have h1 : c ∈ s.data.toList := by
      rw [toList_extract] at hc
      exact List.mem_of_mem_drop (List.mem_of_mem_take hc)
    exact (HOK.out.2.2.2.2.2.2.2.1 c h1).2.2)).mono ?_
  rintro e w4 ⟨rfl, hx4⟩
  have HX4 := Lib.hid (HX3.out.trans hx4)
  clear hx4 HX3 hno hno2
  go_wp2_with fail
  refine (c_Parse (s.extract 0 a.length) R w4 (by simp; omega) (by
    rw [HA.out, show (s.extract 0 a.length).size = a.length by rw [← len_eq, HA.out]]
    exact HOK.out.1) HOK.out.2.1).mono ?_
  rintro e w5 ⟨u, rfl, hu, hx5⟩
  have HX5 := Lib.hid (HX4.out.trans hx5)
  obtain ⟨Bu, hu⟩ := hu
  obtain ⟨pu, cu, rfl⟩ := own_slice hu
  have HU := Lib.hid (RHold.of_own hu)
  clear hu
  clear hx5 HX4
  go_wp2_with fail
  refine (c_number nm w5 (HD.out.ext HX5.out) (by have := HOK.out.2.2.2.1; simp only [nameB, Bool.and_eq_true, decide_eq_true_eq] at this; exact this.1.1.2) HOK.out.2.2.2.2.2.1).mono ?_
  rintro e w6 ⟨rfl, hx6⟩
  have HX6 := Lib.hid (HX5.out.trans hx6)
  have HU6 := Lib.hid (HU.out.ext hx6)
  clear hx6 HX5 HU
  have HD6 := Lib.hid (HD.out.ext HX6.out)
  have d2 := (cell_blk HD6.out.d 2).trans rfl
  obtain ⟨vs, hvs, hvh⟩ := HD6.out.s
  obtain ⟨ps, cs, rfl⟩ := own_slice hvs
  have HVS := Lib.hid (And.intro hvs hvh)
  have hSN := HD6.out.l
  rw [hSN] at d2
  have hNI : ((N.length : Nat) : Int) ≤ 61 := by omega
  clear hvs hvh
  go_wp2_with fail
  obtain ⟨W6, rfl⟩ : ∃ W6, W6 = w6 := ⟨_, rfl⟩
  clear d2
  go_loopw [11, 12, 55] (fun kv hv iv W => ∃ i : Nat, iv = .int .i64 (i : Nat) ∧ i ≤ N.length ∧ Hid (Ext W6 W)) (fun _ _ iv _ => N.length + 1 - (intOf iv).toNat)
  case atStart => exact ⟨0, rfl, by omega, Lib.hid (Ext.refl _)⟩
  case round =>
    obtain ⟨i, rfl, hi, HXW⟩ := hrel
    obtain ⟨W, rfl⟩ : ∃ W, W = wr := ⟨_, rfl⟩
    by_cases hlt : i < N.length
    · have hI : ((i : Nat) : Int) < (N.length : Nat) := by omega
      have hd : decide (i < N.length) = true := decide_eq_true hlt
      have hne : ¬ ((i : Nat) : Int) = (N.length : Nat) := by omega
      have hnb : (((i : Nat) : Int) != (N.length : Nat)) = true := by simpa using hne
      obtain ⟨g, rfl, _, _, hgc⟩ := own_at HVS.out.1 (by omega)
      have hvl := HVS.out.1.1
      have hiv : i < vs.length := by omega
      have hiS : i < S.length := by omega
      have hc := hgc i (by omega)
      rw [List.getElem?_eq_getElem hiv] at hc
      have hr := HVS.out.2 i _ _ (List.getElem?_eq_getElem hiv) (List.getElem?_eq_getElem hiS)
      have hap := HOK.out.2.2.2.2.2.2.1 _ (List.getElem_mem hiS)
      have hsl := hS _ (List.getElem_mem hiS)
      generalize vs[i] = u at hc hr
      generalize S[i] = z at hr hap hsl
      obtain ⟨pz, cz, rfl, hz2⟩ := hr
      have HM := Lib.hid (c_meet (.slice pz z.length cz) (.slice pu (normR R).length cu) z (normR R) W ((RHold.row ⟨pz, cz, rfl, hz2⟩).ext HXW.out) (HU6.out.row.ext HXW.out) (by omega) (by have := normR_len R; have := HOK.out.2.1.len; omega) hap)
      have e0 := HXW.out.cell hc
      clear hgc hvl hiv hiS hc hap hsl hz2
      go_wp2_with fail
      refine HM.out.mono ?_
      rintro e w7 ⟨rfl, hx7⟩
      have HX7 := Lib.hid (HXW.out.trans hx7)
      clear hx7 HM e0
      go_wp2_with fail
      exact ⟨⟨i + 1, by simp, by omega, HX7⟩, by simp only [intOf]; omega⟩
    · have hI : ¬ ((i : Nat) : Int) < (N.length : Nat) := by omega
      have hd : decide (i < N.length) = false := decide_eq_false hlt
      obtain rfl : i = N.length := by omega
      have HDW := Lib.hid (HD6.out.ext HXW.out)
      have HXX := Lib.hid (HX6.out.trans HXW.out)
      have HUW := Lib.hid (HU6.out.ext HXW.out)
      obtain ⟨pn, cn, rfl⟩ := own_slice HDW.out.n
      have d0 := (cell_blk HDW.out.d 0).trans rfl
      clear hlt hi HD6 HX6 HU6
      have d1 := (cell_blk HDW.out.d 1).trans rfl
      have HVW := Lib.hid (And.intro (ownsRow_ext HVS.out.1 HXW.out) (fun i u l a b => (HVS.out.2 i u l a b).ext HXW.out))
      obtain ⟨W9, hrun, hM9, hg9, hs9⟩ := HDW.out.m.put (string_keyed Tryz.underlying9) Tryz.underlying100 HDW.out.keys (key_str nm (by have := HOK.out.2.2.2.1; simp only [nameB, Bool.and_eq_true, decide_eq_true_eq] at this; exact this.1.1.2)) (v := .int .i64 (N.length : Nat)) (fun p hp e => by
        obtain ⟨j, hj, rfl⟩ := nameKV_mem _ _ _ hp
        exact HOK.out.2.2.2.2.2.1 (str_inj e ▸ List.getElem_mem hj))
      have HF0 := Lib.hid (show DbF B w W db mb (.slice pn N.length cn) (.slice ps S.length cs) (.slice pn N.length cn) (.slice ps N.length cs) (nameKV 0 N) N.length (strW N) N.length vs S from ⟨by have := HDW.out.d; rw [hSN] at this; exact this, HDW.out.n, HDW.out.m, by have := HVW.out.1; rw [hSN] at this; exact this, HVW.out.2, ⟨Below.mono HXX.out hB, fun b o hb _ _ _ _ => HXX.out.blk hb, .inl rfl, .inl (by rw [hSN])⟩, HDW.out.b, Nat.le_trans hB HXX.out.sz⟩)
      have HF9 := Lib.hid (HF0.out.map hg9 hM9)
      have e0 := (cell_blk HF9.out.d 0).trans rfl
      have HUK := Lib.hid (HUW.out.but hg9 (fun c cs fz hc e => by
        obtain ⟨es, ck, hb, _⟩ := HDW.out.m
        rw [Option.some.inj e, hb] at hc
        cases hc))
      have HXX2 := Lib.hid (And.intro HXX.out hg9)
      clear hM9 hg9 hs9
      go_wp2_with (at_builtin; refine Hid.out ?_)
      refine Lib.hid ?_
      clear hrun d0 d1 e0
      have HF10 := Lib.hid (HF9.out.ext ((Ext.refl W9).alloc (.cells #[.string ⟨nm.toArray⟩] 9)))
      have HU10 := Lib.hid (HUK.out.ext ((Ext.refl W9).alloc (.cells #[.string ⟨nm.toArray⟩] 9)))
      have hnews := World.news_of_block (World.alloc_heap_new W9 (.cells #[.string ⟨nm.toArray⟩] 9))
      generalize W9.alloc (.cells #[.string ⟨nm.toArray⟩] 9) = W10 at HF10 HU10 hnews ⊢
      obtain ⟨i0, hi0, hz0, hz1, hz3⟩ := info_parts Tryz.infoStr
      refine wpList_append_own_at W10 rfl (.tmp 86) (.tmp 88) 99 rfl B 9 i0 (.string ByteArray.empty) 1 16 Tryz.underlying99 hi0 hz0 hz1 hz3 rfl (by decide) (.slice pn N.length cn) N.length (strW N) rfl HF10.out.n ⟨W9.heap.size, 0, none⟩ 1 1 [.string ⟨nm.toArray⟩] rfl rfl hnews (by intro u hu; simp at hu; subst hu; rfl) (by unfold maxLen; omega) (by omega) HF10.out.z ?_
      intro v' W11 g1 g2 _ g4
      obtain ⟨p', c', rfl⟩ := own_slice g1
      have d11 : W11.heap[db]? = _ := (g2.block db (blk_lt HF10.out.d) (fun e => HF10.out.nb.2.1 e.symm)).trans HF10.out.d
      have HF12 := Lib.hid (HF10.out.names g2 g1 g4)
      have HU12 := Lib.hid ((HU10.out.but g2 (fun c cs fz hc e => by
        obtain ⟨cur, hcur⟩ := own_cells HF10.out.n e.symm
        rw [hc] at hcur
        cases hcur)).but (grown_cell W11 db 0 (.slice p' (N.length + 1) c')) (fun c cs fz hc e => by
        rw [Option.some.inj e, d11] at hc
        cases hc))
      have a0 := (cell_blk d11 0).trans rfl
      have a2 := (cell_blk d11 2).trans rfl
      have az := frz_blk d11 0
      clear g1 g2 g4 d11 hnews HU10 HF10 HUK HF9 HF0
      go_wp2_with (at_builtin; refine Hid.out ?_)
      refine Lib.hid ?_
      have hs12 : (W11.setCell ⟨db, 0, none⟩ (.slice p' (N.length + 1) c')).heap.size = W11.heap.size := by simp [World.setCell]
      clear a0 a2 az
      generalize W11.setCell ⟨db, 0, none⟩ (.slice p' (N.length + 1) c') = W12 at HF12 HU12 hs12 ⊢
      have HF13 := Lib.hid (HF12.out.ext ((Ext.refl W12).alloc (.cells #[.slice none 0 0] 130)))
      have HU13 := Lib.hid (HU12.out.ext ((Ext.refl W12).alloc (.cells #[.slice none 0 0] 130)))
      have hnews := World.news_of_block (World.alloc_heap_new W12 (.cells #[.slice none 0 0] 130))
      rw [hs12] at hnews
      generalize W12.alloc (.cells #[.slice none 0 0] 130) = W13 at HF13 HU13 hnews ⊢
      generalize W11.heap.size = gb at hnews hs12 ⊢
      obtain ⟨j0, hj0, hy0, hy1, hy3⟩ := info_parts Tryz.infoRs
      refine wpList_append_own_at W13 rfl (.tmp 96) (.tmp 97) 101 rfl B 130 j0 (.slice none 0 0) 1 24 Tryz.underlying101 hj0 hy0 hy1 hy3 rfl (by decide) (.slice ps N.length cs) N.length vs rfl HF13.out.s ⟨gb, 0, none⟩ 1 1 [.slice none 0 0] rfl rfl hnews (by intro u hu; simp at hu; subst hu; rfl) (by unfold maxLen; omega) (by omega) HF13.out.z ?_
      intro v2 W14 g1 g2 _ g4
      obtain ⟨p2, c2, rfl⟩ := own_slice g1
      obtain ⟨g2', rfl, _, _, _⟩ := own_at g1 (by omega)
      have d14 : W14.heap[db]? = _ := (g2.block db (blk_lt HF13.out.d) (fun e => HF13.out.nb.2.2.1 e.symm)).trans HF13.out.d
      have HF15 := Lib.hid (HF13.out.sets (S' := S) g2 g1 g4 (fun i u l a b => by
        have hvl := HF13.out.s.1
        have hi : i < S.length := (List.getElem?_eq_some_iff.1 b).1
        rw [List.getElem?_append_left (by omega)] at a
        exact .inl ⟨a, b⟩))
      have HU15 := Lib.hid ((HU13.out.but g2 (fun c cs fz hc e => by
        obtain ⟨cur, hcur⟩ := own_cells HF13.out.s e.symm
        rw [hc] at hcur
        cases hcur)).but (grown_cell W14 db 2 (.slice (some ⟨g2', 0, none⟩) (N.length + 1) c2)) (fun c cs fz hc e => by
        rw [Option.some.inj e, d14] at hc
        cases hc))
      have a2 := (cell_blk d14 2).trans rfl
      have az := frz_blk d14 2
      clear g1 g2 g4 d14 hnews hs12 HU13 HF13 HU12 HF12
      go_wp2_with fail
      clear a2 az
      have hs15 : (W14.setCell ⟨db, 2, none⟩ (.slice (some ⟨g2', 0, none⟩) (N.length + 1) c2)).heap.size = W14.heap.size := by simp [World.setCell]
      clear hs15
      generalize W14.setCell ⟨db, 2, none⟩ (.slice (some ⟨g2', 0, none⟩) (N.length + 1) c2) = W15 at HF15 HU15 ⊢
      have hvl : vs.length = N.length := by
        have := HF15.out.s.1
        rw [List.length_append] at this
        simp only [List.length_cons, List.length_nil] at this
        omega
      have q2 : ∀ w', EOn (fun _ => True) W15 w' → w'.cell? ⟨db, 2, none⟩ = some (.slice (some ⟨g2', 0, none⟩) (N.length + 1) c2) := fun w' hx => hx.cell trivial ((cell_blk HF15.out.d 2).trans rfl)
      have qc : ∀ w', EOn (fun _ => True) W15 w' → w'.cell? ⟨g2', N.length, none⟩ = some (.slice none 0 0) := fun w' hx => hx.cell trivial (by
        obtain ⟨_, _, _, _, hc⟩ := own_at HF15.out.s (by omega)
        have := hc N.length (by omega)
        rw [List.getElem?_append_right (by omega), hvl, Nat.sub_self] at this
        rename_i e1 _ _
        cases e1
        exact this)
      have ixN : ((N.length : Nat) : Int) < (N.length : Nat) + 1 := by omega
      have HVL := Lib.hid hvl
      clear hvl
      refine wp_lex (fun _ => True) [true, true, true, true, true, true, true, true, true, true, true, true, true, false] (by kernel_rfl) (by kernel_rfl) ?_
      repeat first
        | refine wpG_move' ?_
        | refine wpG_assign' ?_
        | refine wpG_val' ?_
        | refine wpG_no' ?_
      clear q2 qc
      refine wpG_do (by rfl) (fun w16 hx16 K hK => ?_)
      go_wp2_with fail
      have HU16 := Lib.hid (HU15.out.ext hx16)
      refine (c_Or (.slice pu (normR R).length cu) (normR R) w16 HU16.out.row HU16.out.nil HOK.out.2.2.1).mono ?_
      rintro e w17 ⟨x, rfl, hx, hx17⟩
      obtain ⟨px, cx, rfl⟩ := own_slice hx
      refine hK _ _ ⟨EOn.of_ext hx17, ?_⟩
      clear hK
      have HF17 := Lib.hid ((HF15.out.ext hx16).ext hx17)
      have HR17 := Lib.hid (RHold.of_own hx)
      clear hx16 hx17 hx HU16 HU15 HF15
      refine wpG_end (fun w18 hx18 => ?_)
      have HF18 := Lib.hid (HF17.out.ext hx18)
      have HR18 := Lib.hid (HR17.out.ext hx18)
      clear hx18 HF17 HR17
      have b0 : w18.cell? ⟨g2', N.length, none⟩ = some (.slice none 0 0) := by
        obtain ⟨_, e1, _, _, hc⟩ := own_at HF18.out.s (by omega)
        have := hc N.length (by omega)
        rw [List.getElem?_append_right (by have := HVL.out; omega), HVL.out, Nat.sub_self] at this
        cases e1
        exact this
      have b1 := HF18.out.s.frozenAt N.length
      go_wp2_with fail
      refine gQ_normal ?_
      go_wp2_with fail
      have HF19 := HF18.out.put (S' := S ++ [normR (normR R)]) N.length (.slice px (normR (normR R)).length cx) (fun j z l a b => by
        by_cases hj : j < N.length
        · rw [List.getElem?_set_ne (by omega)] at a
          rw [List.getElem?_append_left (by omega)] at b
          exact .inl ⟨a, b⟩
        · have hj2 : j = N.length := by
            have := (List.getElem?_eq_some_iff.1 b).1
            rw [List.length_append] at this
            simp only [List.length_cons, List.length_nil] at this
            omega
          subst hj2
          rw [List.getElem?_set_self (by rw [List.length_append, HVL.out]; simp)] at a
          rw [List.getElem?_append_right (by omega), hSN, Nat.sub_self] at b
          obtain rfl := Option.some.inj a
          obtain rfl := Option.some.inj b
          exact .inr HR18.out)
      have hnm : nm.length ≤ 32 := by have := HOK.out.2.2.2.1; simp only [nameB, Bool.and_eq_true, decide_eq_true_eq] at this; exact this.1.1.2
      have hsl1 : (S ++ [normR (normR R)]).length = N.length + 1 := by rw [List.length_append, hSN]; rfl
      have hnl1 : (N ++ [nm]).length = N.length + 1 := by rw [List.length_append]; rfl
      refine ret_one rfl rfl rfl ⟨rfl, _, _, ⟨HF19.d, ?_, ?_, ⟨_, by rw [hsl1]; exact HF19.s, HF19.h⟩, HF19.b, by rw [hsl1, hnl1], by rw [hnl1]; exact hk, fun x hx => ?_⟩, HF19.k⟩
      · rw [hnl1, strW, List.map_append]
        exact HF19.n
      · rw [nameKV_app, Nat.zero_add]
        exact HF19.m
      · rcases List.mem_append.1 hx with hx | hx
        · exact HDW.out.w x hx
        · rw [List.mem_singleton] at hx
          exact hx ▸ hnm
end Go.Proofs.YtlmkbldiicbejaaGreatDoor
