/- What an argument of two short numbers reads as. -/
import Derived.Test.YtkcfknlpdfgjnaaMR
set_option linter.unusedVariables false
set_option linter.constructorNameAsVariable false
set_option maxRecDepth 100000
set_option maxHeartbeats 4000000
namespace Go.Ab
open Go Go.Proofs
section
variable {H : Type} {enc : TypeId × Value → H} {W : World}
theorem cells48 : Try.prog.cellsOf 48 = 1 := by kernel_rfl
theorem cells57 : Try.prog.cellsOf 57 = 2 := by kernel_rfl
theorem rd_two {r : Reach} {base : Nat} {v : Value} (hv : Value.okWide Try.prog W r base 57 v) (h : Reads enc Try.prog W 57 v.cells.toList) :
    ∃ x y : Int, VR (C0 W) (.agg [.i .u16 x, .i .u16 y]) v ∧ 0 ≤ x ∧ x < 65536 ∧ 0 ≤ y ∧ y < 65536 := by
  simp only [Value.okWide, Try.underlying57] at hv
  obtain ⟨cs, rfl, -⟩ := hv
  have hc : (Value.agg cs).cells.toList = cs.toList := by simp [Value.cells]
  rw [hc] at h
  obtain ⟨hl, hf⟩ := rd_array Try.underlying57 h
  rw [cells57] at hl
  simp only [cells48] at hf
  have h1 := hf 0 (by omega)
  have h2 := hf 1 (by omega)
  obtain ⟨l⟩ := cs
  match l, hl with
  | [c1, c2], _ =>
    simp at h1 h2
    obtain ⟨a1, rfl, l1, u1⟩ := rd_one Try.underlying48 h1
    obtain ⟨a2, rfl, l2, u2⟩ := rd_one Try.underlying48 h2
    simp [IntKind.min, IntKind.max, IntKind.signed, IntKind.bits] at l1 u1 l2 u2
    exact ⟨a1, a2, agg_of (vrl_cons (.i _ _) (vrl_cons (.i _ _) vrl_nil)) (by simp [one1, Value.oneCell']), by omega, by omega, by omega, by omega⟩
end
end Go.Ab
