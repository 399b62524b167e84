/- What further arguments of the laws of scale read as: logs, prices, places. -/
import Derived.Test.YthcbimgdbhkikaaRA
import Derived.Test.YthcbimgdbhkikaaS4
set_option linter.unusedVariables false
set_option linter.constructorNameAsVariable false
set_option maxRecDepth 100000
set_option maxHeartbeats 4000000
namespace Go.Ab
open Go Go.Proofs
section
variable {H : Type} {enc : TypeId × Value → H} {W : World}
theorem cells38 : Try.prog.cellsOf 38 = 1 := by kernel_rfl

theorem rd_logs {r : Reach} {base : Nat} {v : Value} (hv : Value.okWide Try.prog W r base 38 v) (h : Reads enc Try.prog W 38 v.cells.toList) :
    ∃ (l : List (Int × Int)) (fl : Bool), VR (C0 W) (slL l fl) v ∧ (l.length : Int) < 9223372036854775808 := by
  obtain ⟨a0, len, cap, rfl⟩ := WideShapes.okWide_slice Try.underlying38 hv
  obtain ⟨els, full, v', e, hr, hl, hq⟩ := rd_slice (Q := fun xs => ∃ x y : Int, xs = [V.i .i64 x, V.i .i64 y]) Try.underlying38 cells29 (by omega) (fun cs hcs => by
    obtain ⟨hl, hf⟩ := rd_struct Try.underlying29 hcs
    rw [cells29] at hl
    simp [cells3] at hf
    match cs, hl with
    | [c1, c2], _ =>
      simp at hf
      obtain ⟨h1, h2⟩ := hf
      obtain ⟨a1, rfl, -⟩ := rd_one Try.underlying3 h1
      obtain ⟨a2, rfl, -⟩ := rd_one Try.underlying3 h2
      refine ⟨[.i .i64 a1, .i .i64 a2], ⟨a1, a2, rfl⟩, rfl, vrl_cons (.i _ _) (vrl_cons (.i _ _) vrl_nil), ?_⟩
      simp [one1, Value.oneCell']) h
  have hv' : v' = .slice a0 len cap := by simpa [Value.cells] using e.symm
  subst hv'
  have : ∃ l : List (Int × Int), els.flatten = lsV l ∧ els.length = l.length := by
    clear hr hl e
    induction els with
    | nil => exact ⟨[], rfl, rfl⟩
    | cons x els ih =>
      obtain ⟨l, h1, h2⟩ := ih (fun y hy => hq y (List.mem_cons_of_mem _ hy))
      obtain ⟨⟨a, b, rfl⟩, -⟩ := hq x (List.mem_cons_self ..)
      exact ⟨(a, b) :: l, by rw [List.flatten_cons, h1]; rfl, by simp [h2]⟩
  obtain ⟨l, h1, h2⟩ := this
  refine ⟨l, full, ?_, by omega⟩
  rw [h1, h2] at hr
  exact hr

theorem rd_nums {r : Reach} {base : Nat} {v : Value} (hv : Value.okWide Try.prog W r base 22 v) (h : Reads enc Try.prog W 22 v.cells.toList) :
    ∃ (l : List Int) (fl : Bool), VR (C0 W) (sl l fl) v ∧ (l.length : Int) < 9223372036854775808 ∧ ∀ x ∈ l, -9223372036854775808 ≤ x ∧ x < 9223372036854775808 := by
  obtain ⟨a0, len, cap, rfl⟩ := WideShapes.okWide_slice Try.underlying22 hv
  obtain ⟨l, full, v', e, hr, hl, hb⟩ := rd_ints Try.underlying22 Try.underlying2 cells2 h
  have hv' : v' = .slice a0 len cap := by simpa [Value.cells] using e.symm
  subst hv'
  exact ⟨l, full, hr, hl, fun x hx => by have := hb x hx; simp [IntKind.min, IntKind.max, IntKind.signed, IntKind.bits] at this; omega⟩

theorem rd_num {r : Reach} {base : Nat} {v : Value} (hv : Value.okWide Try.prog W r base 3 v) (h : Reads enc Try.prog W 3 v.cells.toList) :
    ∃ x : Int, VR (C0 W) (.i .i64 x) v ∧ -9223372036854775808 ≤ x ∧ x < 9223372036854775808 := by
  obtain ⟨n, rfl⟩ := WideShapes.okWide_int Try.underlying3 hv
  obtain ⟨m, e, h1, h2⟩ := rd_int Try.underlying3 h
  simp [Value.cells] at e
  subst e
  simp [IntKind.min, IntKind.max, IntKind.signed, IntKind.bits] at h1 h2
  exact ⟨n, .i _ _, by omega, by omega⟩
end
end Go.Ab
