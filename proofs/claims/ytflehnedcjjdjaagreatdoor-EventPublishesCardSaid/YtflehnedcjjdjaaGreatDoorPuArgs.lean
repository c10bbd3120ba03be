/-
  Arguments of the law: pure data of a type are the type's structure. Printed by a program (mkargs.py).
-/
import Derived.Test.YtflehnedcjjdjaaGreatDoorPuT2
import Derived.Test.YtflehnedcjjdjaaGreatDoorPuA27
import Derived.OpenShut
set_option linter.unusedSimpArgs false
set_option linter.unusedVariables false
namespace Go.Proofs.YtflehnedcjjdjaaGreatDoor
open Go.Pu Go.WideShapes
set_option maxRecDepth 100000
def argTys : List Nat := [3, 9]
theorem argTys_ok : dataS E argTys = true := by kernel_rfl
theorem rd_3 {H : Type} {enc : TypeId × Value → H} {W : World} {b : Nat} {v : Value} {d : DataW H} {ps : List MemPlace} (hv : Value.okWide Tryz.prog W .any b 3 v) (h : DataW.Trod enc Tryz.prog W 0 (fun _ => true) true 3 v d ps) :
    ∃ x : Int, inK .i64 (x) ∧ VP (Gh.all W) (.int .i64 x) v := by
  obtain ⟨n0, rfl⟩ := okWide_int Tryz.underlying3 hv
  obtain ⟨n, p, h1, h2⟩ := read_cell env_ok.ty argTys_ok (by rfl) h rfl
  obtain ⟨x, e, h3⟩ := fitI (k := .i64) (by kernel_rfl) h2
  cases e
  exact ⟨x, h3, h1⟩
theorem rd_9 {H : Type} {enc : TypeId × Value → H} {W : World} {b : Nat} {v : Value} {d : DataW H} {ps : List MemPlace} (hv : Value.okWide Tryz.prog W .any b 9 v) (h : DataW.Trod enc Tryz.prog W 0 (fun _ => true) true 9 v d ps) :
    ∃ x : List UInt8, x.length ≤ 9223372036854775807 ∧ VP (Gh.all W) (.str x) v := by
  obtain ⟨n0, rfl⟩ := okWide_string Tryz.underlying9 hv
  obtain ⟨n, p, h1, h2⟩ := read_cell env_ok.ty argTys_ok (by rfl) h rfl
  obtain ⟨x, e, h3⟩ := fitS (by kernel_rfl) h2
  cases e
  exact ⟨x, h3, h1⟩
end Go.Proofs.YtflehnedcjjdjaaGreatDoor
