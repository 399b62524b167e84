/- What further arguments of the laws of lock read as: bytes. -/
import Derived.Test.YtkcfknlpdfgjnaaMA
import Derived.Test.YtkcfknlpdfgjnaaMD
set_option linter.unusedVariables false
set_option linter.constructorNameAsVariable false
set_option maxRecDepth 100000
set_option maxHeartbeats 4000000
namespace Go.Ab
open Go Go.Proofs
section
variable {H : Type} {enc : TypeId × Value → H} {W : World}
theorem cells47 : Try.prog.cellsOf 47 = 1 := by kernel_rfl
theorem rd_bytes {r : Reach} {base : Nat} {v : Value} (hv : Value.okWide Try.prog W r base 47 v) (h : Reads enc Try.prog W 47 v.cells.toList) :
    ∃ (l : List Int) (fl : Bool), VR (C0 W) (slB l fl) v ∧ (l.length : Int) < 9223372036854775808 ∧ ∀ x ∈ l, 0 ≤ x ∧ x < 256 := by
  obtain ⟨a0, len, cap, rfl⟩ := WideShapes.okWide_slice Try.underlying47 hv
  obtain ⟨l, full, v', e, hr, hl, hb⟩ := rd_ints Try.underlying47 Try.underlying5 cells5 h
  have hv' : v' = .slice a0 len cap := by simpa [Value.cells] using e.symm
  subst hv'
  exact ⟨l, full, hr, hl, fun x hx => by have := hb x hx; simp [IntKind.min, IntKind.max, IntKind.signed, IntKind.bits] at this; omega⟩
theorem rd_byte {r : Reach} {base : Nat} {v : Value} (hv : Value.okWide Try.prog W r base 5 v) (h : Reads enc Try.prog W 5 v.cells.toList) :
    ∃ x : Int, VR (C0 W) (.i .u8 x) v ∧ 0 ≤ x ∧ x < 256 := by
  obtain ⟨n, rfl⟩ := WideShapes.okWide_int Try.underlying5 hv
  obtain ⟨m, e, h1, h2⟩ := rd_int Try.underlying5 h
  simp [Value.cells] at e
  subst e
  simp [IntKind.min, IntKind.max, IntKind.signed, IntKind.bits] at h1 h2
  exact ⟨n, .i _ _, by omega, by omega⟩
theorem rd_word {r : Reach} {base : Nat} {v : Value} (hv : Value.okWide Try.prog W r base 48 v) (h : Reads enc Try.prog W 48 v.cells.toList) :
    ∃ x : Int, VR (C0 W) (.i .u16 x) v ∧ 0 ≤ x ∧ x < 65536 := by
  obtain ⟨n, rfl⟩ := WideShapes.okWide_int Try.underlying48 hv
  obtain ⟨m, e, h1, h2⟩ := rd_int Try.underlying48 h
  simp [Value.cells] at e
  subst e
  simp [IntKind.min, IntKind.max, IntKind.signed, IntKind.bits] at h1 h2
  exact ⟨n, .i _ _, by omega, by omega⟩
end
end Go.Ab
