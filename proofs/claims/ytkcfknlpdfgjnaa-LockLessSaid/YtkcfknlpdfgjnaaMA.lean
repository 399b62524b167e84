/- What arguments of the laws of lock read as. -/
import Derived.Test.YtkcfknlpdfgjnaaRows
import Derived.WalkKit
import Derived.ProofKit
import Derived.OpenShut
import Derived.Test.YtkcfknlpdfgjnaaLB
import Derived.Test.YtkcfknlpdfgjnaaC6
set_option linter.unusedVariables false
set_option linter.constructorNameAsVariable false
set_option maxRecDepth 100000
set_option maxHeartbeats 4000000
namespace Go.Ab
open Go Go.Proofs
section
variable {H : Type} {enc : TypeId × Value → H} {W : World}
theorem cells2 : Try.prog.cellsOf 2 = 1 := by kernel_rfl
theorem cells3 : Try.prog.cellsOf 3 = 1 := by kernel_rfl
theorem cells5 : Try.prog.cellsOf 5 = 1 := by kernel_rfl
theorem cells22 : Try.prog.cellsOf 22 = 1 := by kernel_rfl
theorem cells24 : Try.prog.cellsOf 24 = 2 := by kernel_rfl
theorem cells59 : Try.prog.cellsOf 59 = 2 := by kernel_rfl
theorem rd_one {k : IntKind} {t : TypeId} (ht : Try.prog.underlying t = some (.int k)) {c : Value} (h : Reads enc Try.prog W t [c]) : ∃ n, c = .int k n ∧ k.min ≤ n ∧ n ≤ k.max := by
  obtain ⟨n, e, hn⟩ := rd_int ht h
  simp at e
  exact ⟨n, e, hn⟩
theorem rd_nums {r : Reach} {base : Nat} {v : Value} (hv : Value.okWide Try.prog W r base 25 v) (h : Reads enc Try.prog W 25 v.cells.toList) :
    ∃ (l : List Int) (fl : Bool), VR (C0 W) (sl l fl) v ∧ (l.length : Int) < 9223372036854775808 ∧ ∀ x ∈ l, -9223372036854775808 ≤ x ∧ x < 9223372036854775808 := by
  obtain ⟨a0, len, cap, rfl⟩ := WideShapes.okWide_slice Try.underlying25 hv
  obtain ⟨l, full, v', e, hr, hl, hb⟩ := rd_ints Try.underlying25 Try.underlying3 cells3 h
  have hv' : v' = .slice a0 len cap := by simpa [Value.cells] using e.symm
  subst hv'
  exact ⟨l, full, hr, hl, fun x hx => by have := hb x hx; simp [IntKind.min, IntKind.max, IntKind.signed, IntKind.bits] at this; omega⟩
theorem rd_num {r : Reach} {base : Nat} {v : Value} (hv : Value.okWide Try.prog W r base 3 v) (h : Reads enc Try.prog W 3 v.cells.toList) :
    ∃ x : Int, VR (C0 W) (.i .i64 x) v ∧ -9223372036854775808 ≤ x ∧ x < 9223372036854775808 := by
  obtain ⟨n, rfl⟩ := WideShapes.okWide_int Try.underlying3 hv
  obtain ⟨m, e, h1, h2⟩ := rd_int Try.underlying3 h
  simp [Value.cells] at e
  subst e
  simp [IntKind.min, IntKind.max, IntKind.signed, IntKind.bits] at h1 h2
  exact ⟨n, .i _ _, by omega, by omega⟩
theorem rd_long {r : Reach} {base : Nat} {v : Value} (hv : Value.okWide Try.prog W r base 2 v) (h : Reads enc Try.prog W 2 v.cells.toList) :
    ∃ x : Int, VR (C0 W) (.i .i64 x) v ∧ -9223372036854775808 ≤ x ∧ x < 9223372036854775808 := by
  obtain ⟨n, rfl⟩ := WideShapes.okWide_int Try.underlying2 hv
  obtain ⟨m, e, h1, h2⟩ := rd_int Try.underlying2 h
  simp [Value.cells] at e
  subst e
  simp [IntKind.min, IntKind.max, IntKind.signed, IntKind.bits] at h1 h2
  exact ⟨n, .i _ _, by omega, by omega⟩
theorem rd_tow {r : Reach} {base : Nat} {v : Value} (hv : Value.okWide Try.prog W r base 24 v) (h : Reads enc Try.prog W 24 v.cells.toList) :
    ∃ (T : Tw) (ft : Bool) (room : Int), VR (C0 W) (towV T ft room) v ∧ (T.length : Int) < 9223372036854775808 := by
  obtain ⟨cs, rfl, hc⟩ := arg_agg Try.underlying24 hv
  rw [hc] at h
  obtain ⟨hl, hf⟩ := rd_struct Try.underlying24 h
  rw [cells24] at hl
  simp [cells22, cells3] at hf
  obtain ⟨h1, h2⟩ := hf
  obtain ⟨l⟩ := cs
  match l, hl with
  | [c1, c2], _ =>
    simp at h1 h2
    obtain ⟨els, full, v', e, hr, hl, hq⟩ := rd_slice (Q := fun xs => ∃ x y : Int, xs = [V.i .i64 x, V.i .i64 y]) Try.underlying22 cells59 (by omega) (fun cs hcs => by
      obtain ⟨hl, hf⟩ := rd_struct Try.underlying59 hcs
      rw [cells59] at hl
      simp [cells2] at hf
      match cs, hl with
      | [c1, c2], _ =>
        simp at hf
        obtain ⟨h1, h2⟩ := hf
        obtain ⟨a1, rfl, -⟩ := rd_one Try.underlying2 h1
        obtain ⟨a2, rfl, -⟩ := rd_one Try.underlying2 h2
        refine ⟨[.i .i64 a1, .i .i64 a2], ⟨a1, a2, rfl⟩, rfl, vrl_cons (.i _ _) (vrl_cons (.i _ _) vrl_nil), ?_⟩
        simp [one1, Value.oneCell']) h1
    have hv' : v' = c1 := by simpa using e.symm
    subst hv'
    have : ∃ l : List (Int × Int), els.flatten = lsV l ∧ els.length = l.length := by
      clear hr hl e
      induction els with
      | nil => exact ⟨[], rfl, rfl⟩
      | cons x els ih =>
        obtain ⟨l, h1, h2⟩ := ih (fun y hy => hq y (List.mem_cons_of_mem _ hy))
        obtain ⟨⟨a, b, rfl⟩, -⟩ := hq x (List.mem_cons_self ..)
        exact ⟨(a, b) :: l, by rw [List.flatten_cons, h1]; rfl, by simp [h2]⟩
    obtain ⟨l, e1, e2⟩ := this
    rw [e1, e2] at hr
    obtain ⟨a2, rfl, -⟩ := rd_one Try.underlying3 h2
    refine ⟨l, full, a2, agg_of (vrl_cons hr (vrl_cons (.i _ _) vrl_nil)) ?_, by omega⟩
    have h1 := ss_one hr
    simp [h1]
    rfl
end
end Go.Ab
