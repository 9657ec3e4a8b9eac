/-
 What the rows list; an order read.
-/
import Derived.Test.YtokeamebcdhnpaaGreatDoorRowBase
import Derived.Test.YtokeamebcdhnpaaGreatDoorLvW
import Derived.Lib.SmallJoins
import Derived.Shelf.Vars
namespace Go.Proofs.YtokeamebcdhnpaaGreatDoor
open Go.RowKit Go.Rp Go.Shelf Go.Maps Go.Cl Go.Joins

theorem tabsC_of {W : World} (h : laidMetH Tryz.prog listed W) (hs : W.ShapedOpen Tryz.prog) : TabsC W :=
 ⟨tabs_of h, cell_of_shapedOpen_int (g := 0) (t := 3) (zero := #[.int .i64 0]) hs (of_decide_eq_true (by kernel_rfl)) (by kernel_rfl) rfl (by kernel_rfl) (by kernel_rfl) Tryz.underlying3⟩
set_option maxRecDepth 100000 in
theorem open_order {H : Type} {enc : TypeId × Value → H} {w : World} {base b0 : Nat} {sp : Nat → Bool} {held : Bool} {r : Reach} {v : Value} {d : DataW H} {p : List MemPlace}
  (hv : Value.okWide Tryz.prog w r b0 24 v) (h : DataW.Trod enc Tryz.prog w base sp held 24 v d p) :
  ∃ o : Cl.Ord, v = ordV o ∧ p = [] ∧ (-9223372036854775808 ≤ o.level ∧ o.level ≤ 9223372036854775807) ∧ ∀ (w' : World) (b' : Nat) (sp' : Nat → Bool) (held' : Bool), DataW.Trod enc Tryz.prog w' b' sp' held' 24 (ordV o) d [] := by
 obtain ⟨v0, v1, v2, v3, y0, y1, y2, y3, n, rfl, rfl, rfl, h0, h1, h2, h3⟩ := open_agg4 Tryz.underlying24 (by kernel_rfl) (by kernel_rfl) hv h
 obtain ⟨l, e0, rfl, wl⟩ := DataW.trod_int Tryz.underlying3 h0
 obtain ⟨a, e1, rfl⟩ := DataW.trod_bool Tryz.underlying4 h1
 obtain ⟨b, e2, rfl⟩ := DataW.trod_bool Tryz.underlying4 h2
 obtain ⟨c, e3, rfl⟩ := DataW.trod_bool Tryz.underlying4 h3
 simp at e0 e1 e2 e3
 subst e0 e1 e2 e3
 have hb : -9223372036854775808 ≤ l ∧ l ≤ 9223372036854775807 := by
  have := wl
  simp [Lit.wf, IntKind.min, IntKind.max, IntKind.bits, IntKind.signed] at this
  omega
 exact ⟨⟨l, a, b, c⟩, rfl, rfl, hb, fun w' b' sp' held' => shut_agg4 (y0 := (.lit (.int .i64 l), [])) (y1 := (.lit (.bool a), [])) (y2 := (.lit (.bool b), [])) (y3 := (.lit (.bool c), [])) Tryz.underlying24 (by kernel_rfl) (by kernel_rfl) ⟨1, by simp [DataW.trod, Tryz.underlying3, wl]⟩ ⟨1, by simp [DataW.trod, Tryz.underlying4]⟩ ⟨1, by simp [DataW.trod, Tryz.underlying4]⟩ ⟨1, by simp [DataW.trod, Tryz.underlying4]⟩⟩
end Go.Proofs.YtokeamebcdhnpaaGreatDoor
