/- What further arguments of the laws of scale read as: bytes, two bytes. -/
import Derived.Test.YthcbimgdbhkikaaRA
import Derived.Test.YthcbimgdbhkikaaP0
set_option linter.unusedVariables false
set_option linter.constructorNameAsVariable false
set_option maxRecDepth 100000
set_option maxHeartbeats 4000000
namespace Go.Ab
open Go Go.Proofs
section
variable {H : Type} {enc : TypeId × Value → H} {W : World}
theorem cells5 : Try.prog.cellsOf 5 = 1 := by kernel_rfl
theorem cells57 : Try.prog.cellsOf 57 = 1 := by kernel_rfl
theorem rd_bytes {r : Reach} {base : Nat} {v : Value} (hv : Value.okWide Try.prog W r base 57 v) (h : Reads enc Try.prog W 57 v.cells.toList) :
    ∃ (l : List Int) (fl : Bool), VR (C0 W) (slB l fl) v ∧ (l.length : Int) < 9223372036854775808 ∧ ∀ x ∈ l, 0 ≤ x ∧ x < 256 := by
  obtain ⟨a0, len, cap, rfl⟩ := WideShapes.okWide_slice Try.underlying57 hv
  obtain ⟨l, full, v', e, hr, hl, hb⟩ := rd_ints Try.underlying57 Try.underlying5 cells5 h
  have hv' : v' = .slice a0 len cap := by simpa [Value.cells] using e.symm
  subst hv'
  exact ⟨l, full, hr, hl, fun x hx => by have := hb x hx; simp [IntKind.min, IntKind.max, IntKind.signed, IntKind.bits] at this; omega⟩
theorem rd_byte {r : Reach} {base : Nat} {v : Value} (hv : Value.okWide Try.prog W r base 5 v) (h : Reads enc Try.prog W 5 v.cells.toList) :
    ∃ x : Int, VR (C0 W) (.i .u8 x) v ∧ 0 ≤ x ∧ x < 256 := by
  obtain ⟨n, rfl⟩ := WideShapes.okWide_int Try.underlying5 hv
  obtain ⟨m, e, h1, h2⟩ := rd_int Try.underlying5 h
  simp [Value.cells] at e
  subst e
  simp [IntKind.min, IntKind.max, IntKind.signed, IntKind.bits] at h1 h2
  exact ⟨n, .i _ _, by omega, by omega⟩
theorem cells66 : Try.prog.cellsOf 66 = 2 := by kernel_rfl
theorem rd_two {r : Reach} {base : Nat} {v : Value} (hv : Value.okWide Try.prog W r base 66 v) (h : Reads enc Try.prog W 66 v.cells.toList) :
    ∃ x y : Int, VR (C0 W) (.agg [.i .u8 x, .i .u8 y]) v ∧ (0 ≤ x ∧ x < 256) ∧ 0 ≤ y ∧ y < 256 := by
  simp only [Value.okWide, Try.underlying66] at hv
  obtain ⟨cs, rfl, h1, -⟩ := hv
  have hc : (Value.agg cs).cells.toList = cs.toList := by simp [Value.cells]
  rw [hc] at h
  obtain ⟨hl, hf⟩ := rd_array Try.underlying66 h
  rw [cells66] at hl
  obtain ⟨l⟩ := cs
  match l, hl with
  | [c1, c2], _ =>
    have f0 := hf 0 (by omega)
    have f1 := hf 1 (by omega)
    rw [cells5] at f0 f1
    simp at f0 f1
    obtain ⟨a1, rfl, b1, b2⟩ := rd_one Try.underlying5 f0
    obtain ⟨a2, rfl, b3, b4⟩ := rd_one Try.underlying5 f1
    simp [IntKind.min, IntKind.max, IntKind.signed, IntKind.bits] at b1 b2 b3 b4
    refine ⟨a1, a2, agg_of (vrl_cons (.i _ _) (vrl_cons (.i _ _) vrl_nil)) ?_, by omega, by omega⟩
    simp [one1, Value.oneCell']
end
end Go.Ab
