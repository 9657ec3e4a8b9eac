/-
  RopePlays: for every list of acts the call returns true, and nothing that lay has turned; in both forms.
-/
import Derived.Test.YtohpekbooapcjaaRows
import Derived.WalkKit
import Derived.ProofKit
import Derived.OpenShut
import Derived.ShutString
import Derived.SizedLaws
import Derived.Carry
import Derived.Deep.CondSized
import Derived.Test.YtohpekbooapcjaaPlaysC
namespace Go.Proofs.Ytohpekbooapcjaa.ropePlays
open Go.ChangeShapes Go.WideShapes Go.ChangeAt Go.RowKit

theorem own : ownKnob Try.prog.godebug = none := by kernel_rfl
theorem laidOut : laidOutB Try.prog = true := by kernel_rfl
theorem cellsAct : Try.prog.cellsOf 76 = 6 := by kernel_rfl
theorem cellsInt : Try.prog.cellsOf 3 = 1 := by kernel_rfl
theorem cellsString : Try.prog.cellsOf 9 = 1 := by kernel_rfl

set_option maxRecDepth 100000 in
/-- One act that came in. -/
theorem open_act {H : Type} {enc : TypeId × Value → H} {W : World} {base : Nat} {sp : Nat → Bool} {held : Bool} {fuel : Nat} {cs : List Value} {x : DataW H × List MemPlace}
    (h : DataW.trod enc Try.prog W base sp held fuel 76 cs = some x) :
    ∃ a : ActD, cs = a.cells ∧ a.S.size ∈ x.1.weights Try.checked.prog 76 := by
  obtain ⟨xs, n, _, rfl, hl, hlen, hf⟩ := DataW.trod_struct Try.underlying76 h
  rw [cellsAct] at hl
  match cs, hl, xs, hlen, hf with
  | [c0, c1, c2, c3, c4, c5], _, [y0, y1, y2, y3, y4, y5], _, hf =>
    have f0 := hf 0 _ rfl
    have f1 := hf 1 _ rfl
    have f2 := hf 2 _ rfl
    have f3 := hf 3 _ rfl
    have f4 := hf 4 _ rfl
    have f5 := hf 5 _ rfl
    simp only [cellsInt, cellsString, List.drop_zero, List.drop_succ_cons, List.take_succ_cons, List.take_zero, List.getElem?_cons_zero, List.getElem?_cons_succ] at f0 f1 f2 f3 f4 f5
    obtain ⟨a0, e0, rfl, _⟩ := DataW.trod_int Try.underlying3 f0
    obtain ⟨a1, e1, rfl, _⟩ := DataW.trod_int Try.underlying3 f1
    obtain ⟨a2, e2, rfl, _⟩ := DataW.trod_int Try.underlying3 f2
    obtain ⟨a3, e3, rfl, _⟩ := DataW.trod_int Try.underlying3 f3
    obtain ⟨a4, e4, rfl, _⟩ := DataW.trod_int Try.underlying3 f4
    obtain ⟨s, e5, rfl, _⟩ := DataW.trod_string Try.underlying9 f5
    have g0 : c0 = .int .i64 a0 := by simpa [cellsInt] using e0
    have g1 : c1 = .int .i64 a1 := by simpa [cellsInt] using e1
    have g2 : c2 = .int .i64 a2 := by simpa [cellsInt] using e2
    have g3 : c3 = .int .i64 a3 := by simpa [cellsInt] using e3
    have g4 : c4 = .int .i64 a4 := by simpa [cellsInt] using e4
    have g5 : c5 = .string s := by simpa [cellsString] using e5
    subst g0 g1 g2 g3 g4 g5
    refine ⟨⟨a0, a1, a2, a3, a4, s⟩, rfl, ?_⟩
    have hu : Try.checked.prog.underlying 76 = _ := Try.underlying76
    simp only [List.map_cons, List.map_nil, DataW.weights, hu, DataW.weightsEach]
    rw [← len_eq]
    simp

theorem weights_all {H : Type} (ds : List (DataW H)) (d : DataW H) (hd : d ∈ ds) (n : Nat) (hn : n ∈ d.weights Try.checked.prog 76) : n ∈ DataW.weightsAll Try.checked.prog 76 ds := by
  induction ds with
  | nil => simp at hd
  | cons x l ih =>
    simp only [DataW.weightsAll, List.mem_append]
    rcases List.mem_cons.1 hd with rfl | h
    · exact .inl hn
    · exact .inr (ih h)

set_option maxRecDepth 100000 in
/-- A slice of acts that came in. -/
theorem open_acts {H : Type} {enc : TypeId × Value → H} {W : World} {r : Reach} {base : Nat} {v : Value} {d : DataW H} {p : List MemPlace} (hv : Value.okWide Try.prog W r base 44 v)
    (h : DataW.Trod enc Try.prog W 0 (fun _ => true) true 44 v d p) :
    ∃ l : List ActD, ActRow W v l ∧ ∀ a ∈ l, a.S.size ∈ d.weights Try.checked.prog 44 := by
  obtain ⟨a0, len0, cap0, rfl⟩ := okWide_slice Try.underlying44 hv
  obtain ⟨fuel, hf⟩ := h
  have hu : Try.checked.prog.underlying 44 = _ := Try.underlying44
  rcases DataW.trod_slice Try.underlying44 hf with ⟨hcs, hx⟩ | ⟨a, len, cap, elems, rest, n, _, hcs, hx, _, _, _, hlen, hel, _, _⟩
  · simp only [Value.cells, Array.toList, List.cons.injEq, and_true] at hcs
    obtain ⟨rfl, rfl, rfl⟩ := Value.slice.inj hcs
    exact ⟨[], ⟨none, 0, rfl, fun h => absurd rfl h⟩, fun s hs => by simp at hs⟩
  · simp only [Value.cells, Array.toList, List.cons.injEq, and_true] at hcs
    obtain ⟨rfl, rfl, rfl⟩ := Value.slice.inj hcs
    simp only [Prod.mk.injEq] at hx
    obtain ⟨rfl, rfl⟩ := hx
    rw [cellsAct] at hel
    have hex : ∀ i, ∃ b : ActD, i < len0 → (∀ j, j < 6 → W.cell? ((a.add (i * 6)).add j) = b.cells[j]?) ∧ b.S.size ∈ DataW.weightsAll Try.checked.prog 76 (elems.map (·.1)) := by
      intro i
      by_cases hi : i < len0
      · have h1 := hel i hi
        rw [List.getElem?_eq_getElem (by omega), Option.bind_eq_some_iff] at h1
        obtain ⟨cs, hcs, ht⟩ := h1
        obtain ⟨b, hb, hw⟩ := open_act ht
        subst hb
        obtain ⟨_, _, hcell⟩ := World.cells?_some hcs
        exact ⟨b, fun _ => ⟨hcell, weights_all _ _ (List.mem_map.2 ⟨_, List.getElem_mem (by omega), rfl⟩) _ hw⟩⟩
      · exact ⟨⟨0, 0, 0, 0, 0, ByteArray.empty⟩, fun h => absurd h hi⟩
    obtain ⟨f, hf⟩ := Classical.axiomOfChoice hex
    have hl : ((List.range len0).map f).length = len0 := by simp
    refine ⟨(List.range len0).map f, ⟨some a, cap0, by rw [hl], fun hne => ?_⟩, fun b hb => ?_⟩
    · have hpos : 0 < len0 := by
        apply Nat.pos_of_ne_zero
        intro e
        subst e
        simp at hne
      obtain ⟨ab, ao, spot⟩ := a
      have h0 := (hf 0 hpos).1 0 (by omega)
      have hspot : spot = none := by
        have h1 : W.cell? (((⟨ab, ao, spot⟩ : Addr).add (0 * 6)).add 0) = some (.int .i64 (f 0).K) := h0
        have := World.cell?_spot h1
        cases spot with
        | none => rfl
        | some q => simp [Addr.add] at this
      subst hspot
      rw [Addr.add_lit, Addr.add_lit] at h0
      refine ⟨ab, ao, rfl, ?_, fun i hi j hj => ?_⟩
      · have h2 : W.cell? ⟨ab, ao + 0 * 6 + 0, none⟩ = some (.int .i64 (f 0).K) := h0
        simp only [World.cell?] at h2
        apply Decidable.byContradiction
        intro hge
        rw [Array.getElem?_eq_none (by omega)] at h2
        simp at h2
      · have hi2 : i < len0 := by omega
        have := (hf i hi2).1 j hj
        rw [Addr.add_lit, Addr.add_lit] at this
        rw [this]
        simp
    · obtain ⟨i, hi, rfl⟩ := List.mem_map.1 hb
      simp only [DataW.weights, hu, List.mem_cons, List.mem_append]
      exact .inr (.inl (hf i (by simpa using hi)).2)

set_option maxRecDepth 100000 in
theorem contract (H : Type) (enc : TypeId × Value → H) (W : World) (base : Nat) (args : Array Value) (ds gs : List (DataW H)) (before : List MemPlace)
    (hval : ∀ (j : Nat) t v, Try.f6.params[j]? = some t → args[j]? = some v → Value.okWide Try.prog W .any base t v)
    (hW : DataW.Whole enc Try.prog Try.f6.params.toList Rows.ropePlaysSpec.vars false W args.toList ds gs before)
    (hsz : (DataW.weightsEach Try.checked.prog (Try.f6.params.toList ++ Rows.ropePlaysSpec.plain.varTypes Try.checked.prog) (ds ++ gs)).all (· ≤ reachBytes) = true) :
    Calls Try.prog 6 args W fun e W' => ∃ v, e = .returned v ∧ Rows.ropePlaysSpec.post enc Try.prog Try.f6 false true false false W args v W' := by
  have hW' := hW
  obtain ⟨p, q, hA0, hV, rfl, hfz, hnd⟩ := hW
  have hA : DataW.TrodAll enc Try.prog W 0 (fun _ => true) true Try.f6.params.toList args.toList ds p := hA0
  rw [Try.params6] at hA hval
  obtain ⟨v0, d0, hargs, rfl, h0⟩ := trodAll_one hA
  obtain rfl : args = #[v0] := by cases args; simp_all
  obtain ⟨rfl, rfl⟩ := trodVars_none hV
  obtain ⟨l, hl, hw⟩ := open_acts (hval 0 44 v0 rfl rfl) h0
  have hp0 : (Try.f6.params.toList ++ Rows.ropePlaysSpec.plain.varTypes Try.checked.prog)[0]? = some 44 := by rw [Try.params6]; rfl
  have hs : ∀ a ∈ l, a.S.size ≤ 140737488351232 := by
    intro a ha
    have := List.all_eq_true.1 hsz _ (DataW.weights_mem_each hp0 rfl a.S.size (hw a ha))
    have hr : reachBytes = 140737488351232 := by decide
    simp only [decide_eq_true_eq] at this
    omega
  have hlt : ∀ x ∈ p, x.block < W.heap.size := fun x hx => by simpa using hW'.lt x (by simpa using hx)
  clear hA0
  simp only [List.append_nil] at hW'
  refine (c_Plays v0 l W hl hs).mono fun e W' ⟨he, hg⟩ => ?_
  subst he
  exact ⟨_, rfl, ⟨_, _, _, [], _, [], hW', trodAll_cons_mk (shut_bool Try.underlying4 _) trodAll_mk0, trodAll_mk1 (Below.trod laidOut (by kernel_rfl) (of_decide_eq_true (by kernel_rfl)) h0 hg hlt), rfl, hg.frame _, fun h => by cases h⟩⟩

set_option maxRecDepth 100000 in
theorem lifted (os : Os) (started : os.Started) (H : Type) (enc : TypeId × Value → H) :
    ReturnsInHanded {} Try.checked os 6 .any (Rows.ropePlaysSpec.pre6 enc Try.prog Try.f6 Rows.ropePlaysRow.domain false) (Rows.ropePlaysSpec.post enc Try.prog Try.f6 false true false false) := by
  refine returnsInHanded_of_change_sized (C := Try.checked) own started (by kernel_rfl) Try.func6
    (ChangeSpec.witness6 (enc := enc) (C := Try.checked) false ⟨#[], #[.slice none 0 0], []⟩ 8 (by kernel_rfl) (by kernel_rfl) (by kernel_rfl) (by kernel_rfl)) ?_
  intro W base args ds gs before hval hW _ hsz _
  exact contract H enc W base args ds gs before hval hW hsz

set_option maxRecDepth 100000 in
theorem liftedUpto (os : Os) (started : os.Started) (H : Type) (enc : TypeId × Value → H) (F : Stop.Interp) :
    ReturnsInHanded {} Try.checked os 6 .any ((Rows.OpenSpec.upto Rows.ropePlaysSpec).pre6 enc Try.prog Try.f6 Rows.ropePlaysUptoRow.domain false) (((Rows.OpenSpec.upto Rows.ropePlaysSpec).at F).post enc Try.prog Try.f6 false true false false) := by
  refine returnsInHanded_of_cond_sized (C := Try.checked) (s := Rows.OpenSpec.upto Rows.ropePlaysSpec) (k := Rows.uptoSmall) rfl own started (by kernel_rfl) Try.func6
    (OpenSpec.witness (enc := enc) (C := Try.checked) (s := Rows.OpenSpec.upto Rows.ropePlaysSpec) (k := Rows.uptoSmall) rfl false ⟨#[], #[.slice none 0 0], []⟩ 8 (by kernel_rfl) (by kernel_rfl) (by kernel_rfl)
      (x := ([.nil], [], [])) (by kernel_rfl) rfl (by kernel_rfl)) ?_
  intro W base args ds gs before hval hW _ _ hsz _
  exact contract H enc W base args ds gs before hval hW hsz

/-- The statement. -/
theorem proved : Rows.RopePlaysSaid :=
  OpenClaim.holds_of_wide 6 Try.f6 rfl rfl rfl rfl rfl rfl rfl ⟨rfl, rfl, rfl, rfl, rfl⟩ rfl rfl rfl rfl rfl (by kernel_rfl) Try.func6 (by kernel_rfl)
    (of_decide_eq_true (by kernel_rfl)) (by unfold Func.isWrapper; first | (rw [if_pos (by decide +kernel)]; kernel_rfl) | (rw [if_neg (by decide +kernel)]; exact ⟨rfl, rfl⟩))
    (fun os started H enc _ => lifted os started H enc)
/-- The statement in its second form. -/
theorem provedUpto : Rows.RopePlaysUptoSaid :=
  OpenClaim.holds_of_cond 6 Try.f6 rfl rfl rfl rfl rfl rfl rfl ⟨rfl, rfl, rfl, rfl, rfl⟩ rfl rfl rfl rfl rfl (by kernel_rfl) Try.func6 (by kernel_rfl)
    (of_decide_eq_true (by kernel_rfl)) (by unfold Func.isWrapper; first | (rw [if_pos (by decide +kernel)]; kernel_rfl) | (rw [if_neg (by decide +kernel)]; exact ⟨rfl, rfl⟩))
    (fun os started H enc _ F => liftedUpto os started H enc F)
#print axioms proved
#print axioms provedUpto
end Go.Proofs.Ytohpekbooapcjaa.ropePlays
