/- What arguments of the laws of swap read as. -/
import Derived.Test.YtgaijhpekajflaaRows
import Derived.WalkKit
import Derived.ProofKit
import Derived.OpenShut
import Derived.Test.YtgaijhpekajflaaSC
import Derived.Test.YtgaijhpekajflaaC6
set_option linter.unusedVariables false
set_option linter.constructorNameAsVariable false
set_option maxRecDepth 100000
set_option maxHeartbeats 4000000
namespace Go.Ab
open Go Go.Proofs
section
variable {H : Type} {enc : TypeId × Value → H} {W : World}
theorem cells2 : Try.prog.cellsOf 2 = 1 := by kernel_rfl
theorem cells3 : Try.prog.cellsOf 3 = 1 := by kernel_rfl
theorem cells5 : Try.prog.cellsOf 5 = 1 := by kernel_rfl
theorem cells22 : Try.prog.cellsOf 22 = 1 := by kernel_rfl
theorem cells24 : Try.prog.cellsOf 24 = 2 := by kernel_rfl
theorem cells39 : Try.prog.cellsOf 39 = 1 := by kernel_rfl
theorem cells51 : Try.prog.cellsOf 51 = 1 := by kernel_rfl
theorem cells56 : Try.prog.cellsOf 56 = 3 := by kernel_rfl
theorem cells59 : Try.prog.cellsOf 59 = 1 := by kernel_rfl
theorem cells62 : Try.prog.cellsOf 62 = 1 := by kernel_rfl
theorem rd_one {k : IntKind} {t : TypeId} (ht : Try.prog.underlying t = some (.int k)) {c : Value} (h : Reads enc Try.prog W t [c]) : ∃ n, c = .int k n ∧ k.min ≤ n ∧ n ≤ k.max := by
  obtain ⟨n, e, hn⟩ := rd_int ht h
  simp at e
  exact ⟨n, e, hn⟩
theorem rd_nums {r : Reach} {base : Nat} {v : Value} (hv : Value.okWide Try.prog W r base 39 v) (h : Reads enc Try.prog W 39 v.cells.toList) :
    ∃ (l : List Int) (fl : Bool), VR (C0 W) (sl l fl) v ∧ (l.length : Int) < 9223372036854775808 ∧ ∀ x ∈ l, -9223372036854775808 ≤ x ∧ x < 9223372036854775808 := by
  obtain ⟨a0, len, cap, rfl⟩ := WideShapes.okWide_slice Try.underlying39 hv
  obtain ⟨l, full, v', e, hr, hl, hb⟩ := rd_ints Try.underlying39 Try.underlying3 cells3 h
  have hv' : v' = .slice a0 len cap := by simpa [Value.cells] using e.symm
  subst hv'
  exact ⟨l, full, hr, hl, fun x hx => by have := hb x hx; simp [IntKind.min, IntKind.max, IntKind.signed, IntKind.bits] at this; omega⟩
theorem rd_num {r : Reach} {base : Nat} {v : Value} (hv : Value.okWide Try.prog W r base 3 v) (h : Reads enc Try.prog W 3 v.cells.toList) :
    ∃ x : Int, VR (C0 W) (.i .i64 x) v ∧ -9223372036854775808 ≤ x ∧ x < 9223372036854775808 := by
  obtain ⟨n, rfl⟩ := WideShapes.okWide_int Try.underlying3 hv
  obtain ⟨m, e, h1, h2⟩ := rd_int Try.underlying3 h
  simp [Value.cells] at e
  subst e
  simp [IntKind.min, IntKind.max, IntKind.signed, IntKind.bits] at h1 h2
  exact ⟨n, .i _ _, by omega, by omega⟩
theorem rd_long {r : Reach} {base : Nat} {v : Value} (hv : Value.okWide Try.prog W r base 2 v) (h : Reads enc Try.prog W 2 v.cells.toList) :
    ∃ x : Int, VR (C0 W) (.i .i64 x) v ∧ -9223372036854775808 ≤ x ∧ x < 9223372036854775808 := by
  obtain ⟨n, rfl⟩ := WideShapes.okWide_int Try.underlying2 hv
  obtain ⟨m, e, h1, h2⟩ := rd_int Try.underlying2 h
  simp [Value.cells] at e
  subst e
  simp [IntKind.min, IntKind.max, IntKind.signed, IntKind.bits] at h1 h2
  exact ⟨n, .i _ _, by omega, by omega⟩
theorem rd_bytes {r : Reach} {base : Nat} {v : Value} (hv : Value.okWide Try.prog W r base 51 v) (h : Reads enc Try.prog W 51 v.cells.toList) :
    ∃ (l : List Int) (fl : Bool), VR (C0 W) (.ss (l.map (V.i .u8)) l.length fl) v ∧ (l.length : Int) < 9223372036854775808 ∧ ∀ x ∈ l, 0 ≤ x ∧ x < 256 := by
  obtain ⟨a0, len, cap, rfl⟩ := WideShapes.okWide_slice Try.underlying51 hv
  obtain ⟨l, full, v', e, hr, hl, hb⟩ := rd_ints Try.underlying51 Try.underlying5 cells5 h
  have hv' : v' = .slice a0 len cap := by simpa [Value.cells] using e.symm
  subst hv'
  exact ⟨l, full, hr, hl, fun x hx => by have := hb x hx; simp [IntKind.min, IntKind.max, IntKind.signed, IntKind.bits] at this; omega⟩
theorem rd_byte {r : Reach} {base : Nat} {v : Value} (hv : Value.okWide Try.prog W r base 5 v) (h : Reads enc Try.prog W 5 v.cells.toList) :
    ∃ x : Int, VR (C0 W) (.i .u8 x) v ∧ 0 ≤ x ∧ x < 256 := by
  obtain ⟨n, rfl⟩ := WideShapes.okWide_int Try.underlying5 hv
  obtain ⟨m, e, h1, h2⟩ := rd_int Try.underlying5 h
  simp [Value.cells] at e
  subst e
  simp [IntKind.min, IntKind.max, IntKind.signed, IntKind.bits] at h1 h2
  exact ⟨n, .i _ _, by omega, by omega⟩
theorem rd_word {r : Reach} {base : Nat} {v : Value} (hv : Value.okWide Try.prog W r base 62 v) (h : Reads enc Try.prog W 62 v.cells.toList) :
    ∃ x : Int, VR (C0 W) (.i .u16 x) v ∧ 0 ≤ x ∧ x < 65536 := by
  obtain ⟨n, rfl⟩ := WideShapes.okWide_int Try.underlying62 hv
  obtain ⟨m, e, h1, h2⟩ := rd_int Try.underlying62 h
  simp [Value.cells] at e
  subst e
  simp [IntKind.min, IntKind.max, IntKind.signed, IntKind.bits] at h1 h2
  exact ⟨n, .i _ _, by omega, by omega⟩
theorem rd_u32 {r : Reach} {base : Nat} {v : Value} (hv : Value.okWide Try.prog W r base 59 v) (h : Reads enc Try.prog W 59 v.cells.toList) :
    ∃ x : Int, VR (C0 W) (.i .u32 x) v ∧ 0 ≤ x ∧ x < 4294967296 := by
  obtain ⟨n, rfl⟩ := WideShapes.okWide_int Try.underlying59 hv
  obtain ⟨m, e, h1, h2⟩ := rd_int Try.underlying59 h
  simp [Value.cells] at e
  subst e
  simp [IntKind.min, IntKind.max, IntKind.signed, IntKind.bits] at h1 h2
  exact ⟨n, .i _ _, by omega, by omega⟩
theorem rd_debts0 {cs : List Value} {c1 : Value} (hc : cs = [c1]) (h1 : Reads enc Try.prog W 22 cs) :
    ∃ (D : List Db) (f : Bool), VR (C0 W) (slD D f) c1 ∧ (D.length : Int) < 9223372036854775808 := by
  obtain ⟨els, full, v', e, hr, hl, hq⟩ := rd_slice (Q := fun xs => ∃ x y z : Int, xs = [V.i .i64 x, V.i .i64 y, V.i .i64 z]) Try.underlying22 cells56 (by omega) (fun cs hcs => by
    obtain ⟨hl, hf⟩ := rd_struct Try.underlying56 hcs
    rw [cells56] at hl
    simp [cells2, cells3] at hf
    match cs, hl with
    | [c1, c2, c3], _ =>
      simp at hf
      obtain ⟨h1, h2, h3⟩ := hf
      obtain ⟨a1, rfl, -⟩ := rd_one Try.underlying3 h1
      obtain ⟨a2, rfl, -⟩ := rd_one Try.underlying3 h2
      obtain ⟨a3, rfl, -⟩ := rd_one Try.underlying2 h3
      refine ⟨[.i .i64 a1, .i .i64 a2, .i .i64 a3], ⟨a1, a2, a3, rfl⟩, rfl, vrl_cons (.i _ _) (vrl_cons (.i _ _) (vrl_cons (.i _ _) vrl_nil)), ?_⟩
      simp [one1, Value.oneCell']) h1
  rw [hc] at e
  have hv' : v' = c1 := by simpa using e.symm
  subst hv'
  have : ∃ l : List Db, els.flatten = lsD l ∧ els.length = l.length := by
    clear hr hl e
    induction els with
    | nil => exact ⟨[], rfl, rfl⟩
    | cons x els ih =>
      obtain ⟨l, h1, h2⟩ := ih (fun y hy => hq y (List.mem_cons_of_mem _ hy))
      obtain ⟨⟨a, b, c, rfl⟩, -⟩ := hq x (List.mem_cons_self ..)
      exact ⟨(a, b, c) :: l, by rw [List.flatten_cons, h1]; rfl, by simp [h2]⟩
  obtain ⟨l, e1, e2⟩ := this
  rw [e1, e2] at hr
  exact ⟨l, full, hr, by omega⟩
theorem rd_debts {r : Reach} {base : Nat} {v : Value} (hv : Value.okWide Try.prog W r base 22 v) (h : Reads enc Try.prog W 22 v.cells.toList) :
    ∃ (D : List Db) (f : Bool), VR (C0 W) (slD D f) v ∧ (D.length : Int) < 9223372036854775808 := by
  obtain ⟨a0, len, cap, rfl⟩ := WideShapes.okWide_slice Try.underlying22 hv
  exact rd_debts0 (by simp [Value.cells]) h
theorem rd_book {r : Reach} {base : Nat} {v : Value} (hv : Value.okWide Try.prog W r base 24 v) (h : Reads enc Try.prog W 24 v.cells.toList) :
    ∃ (n : Int) (D : List Db) (f : Bool), VR (C0 W) (bookV n D f) v ∧ (D.length : Int) < 9223372036854775808 := by
  obtain ⟨cs, rfl, hc⟩ := arg_agg Try.underlying24 hv
  rw [hc] at h
  obtain ⟨hl, hf⟩ := rd_struct Try.underlying24 h
  rw [cells24] at hl
  simp [cells22, cells3] at hf
  obtain ⟨h1, h2⟩ := hf
  obtain ⟨l⟩ := cs
  match l, hl with
  | [c1, c2], _ =>
    simp at h1 h2
    obtain ⟨a1, rfl, -⟩ := rd_one Try.underlying3 h1
    obtain ⟨D, f, hr, hl2⟩ := rd_debts0 rfl h2
    refine ⟨a1, D, f, agg_of (vrl_cons (.i _ _) (vrl_cons hr vrl_nil)) ?_, hl2⟩
    have h1 := ss_one hr
    simp [h1]
    rfl
end
end Go.Ab
