/- Bytes read as arguments. -/
import Derived.Test.YtgndegccjhdmmaaGreatJR
set_option linter.unusedVariables false
set_option linter.constructorNameAsVariable false
set_option maxRecDepth 100000
set_option maxHeartbeats 4000000
namespace Go.Ab
open Go Go.Proofs
section
variable {H : Type} {enc : TypeId × Value → H} {W : World}
theorem rd_byte {r : Reach} {base : Nat} {v : Value} (hv : Value.okWide Tryz.prog W r base 5 v) (h : Reads enc Tryz.prog W 5 v.cells.toList) :
    ∃ x : Nat, VR (C0 W) (.i .u8 x) v ∧ x < 256 := by
  obtain ⟨n, rfl⟩ := WideShapes.okWide_int Tryz.underlying5 hv
  obtain ⟨m, e, h1, h2⟩ := rd_int Tryz.underlying5 h
  simp [Value.cells] at e
  subst e
  simp [IntKind.min, IntKind.max, IntKind.signed, IntKind.bits] at h1 h2
  obtain ⟨k, rfl⟩ : ∃ k : Nat, n = k := ⟨n.toNat, by omega⟩
  exact ⟨k, .i _ _, by omega⟩
end
end Go.Ab
