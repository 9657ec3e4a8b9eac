/-
  A statement whose order is open: one of two operations first; behind the one, again one of two. Rows of numbers, grown by a row of numbers.
-/
import Derived.Test.YtlmkbldiicbejaaGreatDoorPlans
import Derived.Test.YtlmkbldiicbejaaGreatDoorBxM
section
namespace Go.Proofs.YtlmkbldiicbejaaGreatDoor
open Go.RowKit

def checkThree (l : List Oper) (o1 : List Nat) (i j k : Nat) (oa ob oc : List Nat) (ba bb bc : List Bool) : Bool :=
  let ops := l.toArray; let pre := Array.replicate l.length true; let L0 := Array.replicate l.length false; let L1 := after o1 L0; let Li := L1.setIfInBounds i true
  Region.noSelect ops && (planT .any ops pre o1 L0 && (Region.ready .any ops L1 == [i, j] && (Region.ready .any ops Li == [k, j] && ((ops[i]?).isSome && ((ops[j]?).isSome && ((ops[k]?).isSome && (planB .any ops pre ba oa (Li.setIfInBounds k true) && (planB .any ops pre bb ob (Li.setIfInBounds j true) && (planB .any ops pre bc oc (L1.setIfInBounds j true) &&
    (preB pre ba oa (Li.setIfInBounds k true) && (preB pre bb ob (Li.setIfInBounds j true) && (preB pre bc oc (L1.setIfInBounds j true) && (ba.length == oa.length && (bb.length == ob.length && (bc.length == oc.length && (o1.length + 2 + oa.length == l.length && (o1.length + 2 + ob.length == l.length && (o1.length + 1 + oc.length == l.length && tailB .any ops pre))))))))))))))))))
theorem wp_three (S : Addr → Prop) {P : Program} {Q : Exit → Act → World → Prop} {id : Nat} {a : Act} {w : World} {l : List Oper} (o1 : List Nat) (i j k : Nat) (oa ob oc : List Nat) (ba bb bc : List Bool) (hm : P.follows .mixedOrders = true) (hB : checkThree l o1 i j k oa ob oc ba bb bc = true)
    {l1 la lb lc : List Oper} {oi oj ok : Oper} (hl1 : o1.map (nth l) = l1) (hla : oa.map (nth l) = la) (hlb : ob.map (nth l) = lb) (hlc : oc.map (nth l) = lc) (hoi : nth l i = oi) (hoj : nth l j = oj) (hok : nth l k = ok)
    (h : wpT S P l.toArray l1 (fun a w => stepF S P l.toArray Q oi (fun a w => stepF S P l.toArray Q ok (wpG S P l.toArray Q ba la) a w ∧ stepF S P l.toArray Q oj (wpG S P l.toArray Q bb lb) a w) a w ∧ stepF S P l.toArray Q oj (wpG S P l.toArray Q bc lc) a w) a w) : (Code.region id l.toArray true).wp P Q a w := by
  subst hl1 hla hlb hlc hoi hoj hok
  simp only [checkThree, Bool.and_eq_true, beq_iff_eq] at hB
  obtain ⟨hs, h1, hr, hr2, hi, hj, hk, hpa, hpb, hpc, hqa, hqb, hqc, hea, heb, hec, hna, hnb, hnc, ht⟩ := hB
  obtain ⟨oi, hoi⟩ := Option.isSome_iff_exists.1 hi
  obtain ⟨oj, hoj⟩ := Option.isSome_iff_exists.1 hj
  obtain ⟨ok, hok⟩ := Option.isSome_iff_exists.1 hk
  have ei : nth l i = oi := by rw [← nth_eq, Array.getD_eq_getD_getElem?, hoi]; rfl
  have ej : nth l j = oj := by rw [← nth_eq, Array.getD_eq_getD_getElem?, hoj]; rfl
  have ek : nth l k = ok := by rw [← nth_eq, Array.getD_eq_getD_getElem?, hok]; rfl
  have emap : ∀ o : List Nat, o.map (nth l) = o.map fun i => l.toArray.getD i default := fun o => List.map_congr_left fun i _ => (nth_eq l i).symm
  refine wp_mono (wp_region_any hm ?_) (Q := gQ Q) (fun e a w hq => by cases e <;> first | exact hq | exact hq.elim)
  have key : anyG S P .any l.toArray (gQ Q) (Array.replicate l.length true) 0 ((oa.length + 1 + 1) + o1.length) (Array.replicate l.length false) a w := by
    refine anyG_T hs ht (oa.length + 1 + 1) o1 _ a w h1 ?_
    rw [← emap]
    refine wpT_mono (fun a w hh => ?_) _ a w h
    obtain ⟨ha, hb⟩ := hh
    rw [ei] at ha
    rw [ej] at hb
    refine anyG_two hr hoi hoj ?_ ?_
    · intro w' hx
      obtain ⟨g1, g2⟩ := ha w' hx
      refine ⟨g1, Oper.wp_mono (fun a' w'' h' => ⟨h'.1, ?_⟩) g2⟩
      obtain ⟨hc, hd⟩ := h'.2
      rw [ek] at hc
      rw [ej] at hd
      refine anyG_two hr2 hok hoj ?_ ?_
      · intro w' hx
        obtain ⟨g1, g2⟩ := hc w' hx
        refine ⟨g1, Oper.wp_mono (fun a' w'' h' => ⟨h'.1, ?_⟩) g2⟩
        have h2 := h'.2
        rw [emap] at h2
        have := anyG_plan (m := 0) (md := .any) hs ht ba oa _ a' w'' hpa hqa (by omega) h2
        rw [hea] at this
        exact this
      · intro w' hx
        obtain ⟨g1, g2⟩ := hd w' hx
        refine ⟨g1, Oper.wp_mono (fun a' w'' h' => ⟨h'.1, ?_⟩) g2⟩
        have h2 := h'.2
        rw [emap] at h2
        have := anyG_plan (m := 0) (md := .any) hs ht bb ob _ a' w'' hpb hqb (by omega) h2
        rw [heb, show ob.length = oa.length from by omega] at this
        exact this
    · intro w' hx
      obtain ⟨g1, g2⟩ := hb w' hx
      refine ⟨g1, Oper.wp_mono (fun a' w'' h' => ⟨h'.1, ?_⟩) g2⟩
      have h2 := h'.2
      rw [emap] at h2
      have := anyG_plan (m := 0) (md := .any) hs ht bc oc _ a' w'' hpc hqc (by omega) h2
      rw [hec, show oc.length = oa.length + 1 from by omega] at this
      exact this
  have := wpAny_of_anyG _ _ _ _ (anyG_ext (Ext.drew (Ext.refl w)) _ _ _ key)
  rw [show oa.length + 1 + 1 + o1.length + 0 = l.length from by omega] at this
  simpa using this
end Go.Proofs.YtlmkbldiicbejaaGreatDoor
end

section
namespace Go.Proofs.YtlmkbldiicbejaaGreatDoor
open Go.RowKit Go.Rp Go.Maps Go.Cl Go.Shelf Go.Gr

section
variable {ops : Array Oper} {o : Oper} {a : Act}
theorem iW_len (l : List Int) : (iW l).length = l.length := by simp [iW]
/-- A row of numbers behind an own row of numbers: the operation alone. -/
theorem ap_ints {Q : Exit → Act → World → Prop} {K : Act → World → Prop} (hgd : o.guard = none) (hQo : ∀ a w, ¬ Q .outgrown a w) (s x : Operand) (ho : o.op = .call { callee := .builtin .append, args := #[s, x], argTypes := #[33, 33] })
    {B : Nat} {W : World} {v : Value} {n : Nat} {xs : List Value} (hs : a.eval s = v) (hown : W.ownsRow B 3 1 v n xs) (hB : B ≤ W.heap.size)
    (ve : Value) (es : List Int) (hxv : a.eval x = ve) (he : IRow W ve es) (hnl : ∀ m c, ve = .slice none m c → c = 0) (hn : n + es.length ≤ 100000)
    (h : ∀ v' w', w'.ownsRow B 3 1 v' (n + es.length) (xs ++ iW es) → W.grownBy w' v.ownBlock → K (a.put o.dst v') w') : o.wp Tryz.prog a W K Q := by
  refine wp_alone (ops := #[]) (by unfold Region.wanted; rw [hgd]) hQo ?_
  obtain ⟨i0, hi0, hz0, hz1, hz3⟩ := info_parts Tryz.infoI
  obtain ⟨p, c, e, hc, hrow⟩ := he
  by_cases hne : es = []
  · subst hne
    cases p with
    | none =>
      obtain rfl : c = 0 := hnl _ _ e
      refine wpList_append_own_none hgd s x 33 ho B 3 i0 1 Tryz.underlying33 hi0 v n xs hs hown (by rw [hxv, e]; rfl) ?_
      have := h v W (by simpa [iW] using hown) (World.grownBy.refl _ _)
      exact this
    | some ad =>
      refine wpList_append_own_at _ hgd s x 33 ho B 3 i0 (.int .i64 0) 1 8 Tryz.underlying33 hi0 hz0 hz1 hz3 rfl (by decide) v n xs hs hown ad 0 c [] (by rw [hxv, e]; rfl) rfl (fun j u hu => by simp at hu) (by intro u hu; simp at hu) (by unfold maxLen; omega) (by omega) hB ?_
      intro v' w' h2 h3 _ _
      exact h v' w' (by simpa [iW] using h2) h3
  · obtain ⟨b, off, rfl, _, hc2⟩ := hrow hne
    refine wpList_append_own_at _ hgd s x 33 ho B 3 i0 (.int .i64 0) 1 8 Tryz.underlying33 hi0 hz0 hz1 hz3 rfl (by decide) v n xs hs hown ⟨b, off, none⟩ es.length c (iW es) (by rw [hxv, e]) (by rw [iW_len, Nat.mul_one]) (fun j u hu => ?_) (by intro u hu; obtain ⟨k, _, rfl⟩ := List.mem_map.1 hu; rfl) (by unfold maxLen; omega) (by omega) hB ?_
    · obtain ⟨hj, e2⟩ := List.getElem?_eq_some_iff.1 hu
      rw [iW_len] at hj
      rw [Addr.add_lit, hc2 j hj, ← e2]
      simp [iW]
    · intro v' w' h2 h3 _ _
      exact h v' w' h2 h3
end
theorem IRow.one {W : World} {o : Obj} {j : Int} (ho : o = .cells #[.int .i64 j] 3) : IRow (W.alloc o) (.slice (some ⟨W.heap.size, 0, none⟩) 1 1) [j] := by
  subst ho
  refine ⟨_, _, rfl, Nat.le_refl _, fun _ => ⟨_, 0, rfl, by rw [World.size_alloc]; omega, fun i hi => ?_⟩⟩
  obtain rfl : i = 0 := by simp at hi; exact hi
  exact (cell_blk (World.alloc_heap_new W _) 0).trans rfl
theorem own_empty {W : World} {B : Nat} (hB : B ≤ W.heap.size) : (W.alloc (.cells #[] 3)).ownsRow B 3 1 (.slice (some ⟨W.heap.size, 0, none⟩) 0 0) 0 [] :=
  ⟨rfl, .inr ⟨W.heap.size, 0, #[], rfl, hB, World.alloc_heap_new W _, Nat.le_refl _, Nat.zero_le _, rfl, rfl⟩⟩
theorem IRow.kept {W W' : World} {v : Value} {l : List Int} {row : Option Nat} (h : IRow W v l) (hg : W.grownBy W' row) (hne : ∀ b, v.ownBlock = some b → some b ≠ row) : IRow W' v l := by
  obtain ⟨p, c, rfl, hc, h2⟩ := h
  refine ⟨p, c, rfl, hc, fun hn => ?_⟩
  obtain ⟨b, off, rfl, hb, h3⟩ := h2 hn
  exact ⟨b, off, rfl, Nat.lt_of_lt_of_le hb hg.size, fun i hi => (World.cell?_of_block (hg.block b hb (hne b rfl))).trans (h3 i hi)⟩
theorem IRow.eon {S : Addr → Prop} {w w' : World} {v : Value} {l : List Int} (h : IRow w v l) (hx : EOn S w w') (hS : ∀ b off, v.ownBlock = some b → S ⟨b, off, none⟩) : IRow w' v l := by
  obtain ⟨p, c, rfl, hc, h2⟩ := h
  refine ⟨p, c, rfl, hc, fun hne => ?_⟩
  obtain ⟨b, off, rfl, hb, h3⟩ := h2 hne
  exact ⟨b, off, rfl, Nat.lt_of_lt_of_le hb hx.sz, fun i hi => hx.cell (hS b _ rfl) (h3 i hi)⟩
end Go.Proofs.YtlmkbldiicbejaaGreatDoor
end
