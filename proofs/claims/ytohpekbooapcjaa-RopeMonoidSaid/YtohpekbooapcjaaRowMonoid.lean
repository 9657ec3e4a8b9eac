/-
  RopeMonoid: for every three texts and every place the call returns true, and nothing that lay has turned.
-/
import Derived.Test.YtohpekbooapcjaaRows
import Derived.WalkKit
import Derived.ProofKit
import Derived.OpenShut
import Derived.ShutString
import Derived.SizedLaws
import Derived.Lib.SmallJoins
import Derived.Test.YtohpekbooapcjaaMonoid
namespace Go.Proofs.Ytohpekbooapcjaa.ropeMonoid
open Go.ChangeShapes Go.WideShapes Go.ChangeAt Go.RowKit Go.Joins
open Go.ChangeMaps (open_string shut_string)

theorem own : ownKnob Try.prog.godebug = none := by kernel_rfl
theorem cellsThree : Try.prog.cellsOf 33 = 4 := by kernel_rfl

set_option maxRecDepth 100000 in
theorem lifted (os : Os) (started : os.Started) (H : Type) (enc : TypeId × Value → H) :
    ReturnsInHanded {} Try.checked os 4 .any (Rows.ropeMonoidSpec.pre6 enc Try.prog Try.f4 Rows.ropeMonoidRow.domain false) (Rows.ropeMonoidSpec.post enc Try.prog Try.f4 false true false false) := by
  refine returnsInHanded_of_change_sized (C := Try.checked) own started (by kernel_rfl) Try.func4
    (ChangeSpec.witness6 (enc := enc) (C := Try.checked) false ⟨#[], #[.agg #[.string ByteArray.empty, .string ByteArray.empty, .string ByteArray.empty, .int .i64 0]], []⟩ 8 (by kernel_rfl) (by kernel_rfl) (by kernel_rfl) (by kernel_rfl)) ?_
  intro W base args ds gs before hval0 hW hcnd hsz _
  have hval : ∀ (j : Nat) t v, Try.f4.params[j]? = some t → args[j]? = some v → Value.okWide Try.prog W .any base t v := hval0
  have hW' := hW
  obtain ⟨p, q, hA0, hV, rfl, hfz, hnd⟩ := hW
  have hA : DataW.TrodAll enc Try.prog W 0 (fun _ => true) true Try.f4.params.toList args.toList ds p := hA0
  rw [Try.params4] at hA hval
  obtain ⟨v0, d0, rfl, rfl, h0⟩ := trodAll_one hA
  obtain ⟨rfl, rfl⟩ := trodVars_none hV
  obtain ⟨c0, c1, c2, c3, y0, y1, y2, y3, m, rfl, rfl, rfl, hy0, hy1, hy2, hy3⟩ := open_agg4 Try.underlying33 (by kernel_rfl) cellsThree (hval 0 33 v0 rfl rfl) h0
  obtain ⟨a, e0, rfl, wa⟩ := DataW.trod_string Try.underlying9 hy0
  obtain ⟨b, e1, rfl, wb⟩ := DataW.trod_string Try.underlying9 hy1
  obtain ⟨c, e2, rfl, wc⟩ := DataW.trod_string Try.underlying9 hy2
  obtain ⟨n, e3, rfl, wn⟩ := DataW.trod_int Try.underlying3 hy3
  simp only [List.cons.injEq, and_true] at e0 e1 e2 e3
  subst e0 e1 e2 e3
  have hp0 : (Try.f4.params.toList ++ Rows.ropeMonoidSpec.plain.varTypes Try.prog)[0]? = some 33 := by rw [Try.params4]; rfl
  have hall := fun n hn => List.all_eq_true.1 hsz n (DataW.weights_mem_each hp0 rfl n hn)
  have hw : ∀ n, n ∈ [a.data.toList.length, b.data.toList.length, c.data.toList.length] → n ≤ reachBytes := by
    intro n hn
    have hu : Try.checked.prog.underlying 33 = _ := Try.underlying33
    have := hall n (by simp only [DataW.weights, hu, List.map_cons, List.map_nil, DataW.weightsEach]; simpa using hn)
    simpa using this
  have z0 := hw a.data.toList.length (by simp)
  have z1 := hw b.data.toList.length (by simp)
  have z2 := hw c.data.toList.length (by simp)
  rw [len_eq] at z0 z1 z2
  have hb := reachBytes_lt
  clear hA0 hval0 hsz hall hw
  simp only [List.append_nil] at hW'
  have structReads : ∀ (W' : World) (sp : Nat → Bool), DataW.Trod enc Try.prog W' 0 sp true 33 (.agg #[.string a, .string b, .string c, .int .i64 n]) (.agg [.lit (.string a.data.toList), .lit (.string b.data.toList), .lit (.string c.data.toList), .lit (.int .i64 n)]) [] := fun W' sp =>
    shut_agg4 (y0 := (.lit (.string a.data.toList), [])) (y1 := (.lit (.string b.data.toList), [])) (y2 := (.lit (.string c.data.toList), [])) (y3 := (.lit (.int .i64 n), [])) Try.underlying33 (by kernel_rfl) cellsThree
      ⟨1, by simp [DataW.trod, Try.underlying9, wa]⟩ ⟨1, by simp [DataW.trod, Try.underlying9, wb]⟩ ⟨1, by simp [DataW.trod, Try.underlying9, wc]⟩ ⟨1, by simp [DataW.trod, Try.underlying3, wn]⟩
  refine (c_Monoid a b c n W (by omega) (by omega) (by omega)).mono fun e W' ⟨he, hg⟩ => ?_
  subst he
  exact ⟨_, rfl, ⟨_, _, _, [], _, [], hW', trodAll_cons_mk (shut_bool Try.underlying4 _) trodAll_mk0, trodAll_mk1 (structReads _ _), rfl, hg.frame _, fun h => by cases h⟩⟩

theorem over : Rows.ropeMonoidRow.holds Try.pinned (OpenSpec.ofChange Rows.ropeMonoidSpec) :=
  OpenClaim.holds_of_wide 4 Try.f4 rfl rfl rfl rfl rfl rfl rfl ⟨rfl, rfl, rfl, rfl, rfl⟩ rfl rfl rfl rfl rfl (by kernel_rfl) Try.func4 (by kernel_rfl)
    (of_decide_eq_true (by kernel_rfl)) (by unfold Func.isWrapper; first | (rw [if_pos (by decide +kernel)]; kernel_rfl) | (rw [if_neg (by decide +kernel)]; exact ⟨rfl, rfl⟩))
    (fun os started H enc _ => lifted os started H enc)

/-- The statement. -/
theorem proved : Rows.RopeMonoidSaid :=
  over
#print axioms proved
end Go.Proofs.Ytohpekbooapcjaa.ropeMonoid
