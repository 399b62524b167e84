import Derived.Test.YtgndegccjhdmmaaGreatPDx14
import Derived.Test.YtgndegccjhdmmaaGreatRows
import Derived.WalkKit
import Derived.ProofKit
import Derived.OpenShut
/- Part 15 of what the theorem in TC rests on: an abstract layer over the calculus, contracts of the functions of the program, and plain facts. -/
set_option linter.unusedVariables false
set_option linter.unusedSimpArgs false
set_option linter.constructorNameAsVariable false
set_option maxHeartbeats 4000000
set_option maxRecDepth 100000
section
namespace Go.Ab
open Go Go.Proofs
section
variable {H : Type} {enc : TypeId × Value → H} {W : World}
theorem cells3 : Tryz.prog.cellsOf 3 = 1 := by kernel_rfl
theorem cells25 : Tryz.prog.cellsOf 25 = 1 := by kernel_rfl
theorem cells22 : Tryz.prog.cellsOf 22 = 1 := by kernel_rfl
theorem cells24 : Tryz.prog.cellsOf 24 = 1 := by kernel_rfl
theorem cellsJ : Tryz.prog.cellsOf 52 = 2 := by kernel_rfl
theorem rd_one {k : IntKind} {t : TypeId} (ht : Tryz.prog.underlying t = some (.int k)) {c : Value} (h : Reads enc Tryz.prog W t [c]) : ∃ n, c = .int k n ∧ k.min ≤ n ∧ n ≤ k.max := by
 obtain ⟨n, e, hn⟩ := rd_int ht h
 simp at e
 exact ⟨n, e, hn⟩
theorem rd_logs0 {cs : List Value} {c1 : Value} (hc : cs = [c1]) (h1 : Reads enc Tryz.prog W 22 cs) :
  ∃ (J : List Lg) (f : Bool), VR (C0 W) (slJ J f) c1 ∧ (J.length : Int) < 9223372036854775808 := by
 obtain ⟨els, full, v', e, hr, hl, hq⟩ := rd_slice (Q := fun xs => ∃ (x : Int) (b : List Int) (f : Bool), xs = [V.i .i64 x, sl b f]) Tryz.underlying22 cellsJ (by omega) (fun cs hcs => by
  obtain ⟨hl, hf⟩ := rd_struct Tryz.underlying52 hcs
  rw [cellsJ] at hl
  simp [cells3, cells25] at hf
  match cs, hl with
  | [c1, c2], _ =>
   simp at hf
   obtain ⟨h1, h2⟩ := hf
   obtain ⟨a1, rfl, -⟩ := rd_one Tryz.underlying3 h1
   obtain ⟨l, fl, v2, e2, hr2, hl2, hb2⟩ := rd_ints Tryz.underlying25 Tryz.underlying3 cells3 h2
   have hv2 : v2 = c2 := by simpa using e2.symm
   subst hv2
   refine ⟨[.i .i64 a1, sl l fl], ⟨a1, l, fl, rfl⟩, rfl, vrl_cons (.i _ _) (vrl_cons hr2 vrl_nil), ?_⟩
   simp [one1, Value.oneCell']
   generalize hg : V.ss (List.map (V.i .i64) l) l.length fl = g at hr2
   cases hr2 <;> first | rfl | cases hg) h1
 rw [hc] at e
 have hv' : v' = c1 := by simpa using e.symm
 subst hv'
 have : ∃ l : List Lg, els.flatten = lgV l ∧ els.length = l.length := by
  clear hr hl e
  induction els with
  | nil => exact ⟨[], rfl, rfl⟩
  | cons x els ih =>
   obtain ⟨l, h1, h2⟩ := ih (fun y hy => hq y (List.mem_cons_of_mem _ hy))
   obtain ⟨⟨a, b, c, rfl⟩, -⟩ := hq x (List.mem_cons_self ..)
   exact ⟨(a, b, c) :: l, by rw [List.flatten_cons, h1]; rfl, by simp [h2]⟩
 obtain ⟨l, e1, e2⟩ := this
 rw [e1, e2] at hr
 exact ⟨l, full, hr, by omega⟩
theorem rd_jam {r : Reach} {base : Nat} {v : Value} (hv : Value.okWide Tryz.prog W r base 24 v) (h : Reads enc Tryz.prog W 24 v.cells.toList) :
  ∃ (J : List Lg) (f : Bool), VR (C0 W) (jamV J f) v ∧ (J.length : Int) < 9223372036854775808 := by
 obtain ⟨cs, rfl, hc⟩ := arg_agg Tryz.underlying24 hv
 rw [hc] at h
 obtain ⟨hl, hf⟩ := rd_struct Tryz.underlying24 h
 rw [cells24] at hl
 simp [cells22] at hf
 obtain ⟨l⟩ := cs
 match l, hl with
 | [c1], _ =>
  simp at hf
  obtain ⟨D, f, hr, hl2⟩ := rd_logs0 rfl hf
  refine ⟨D, f, agg_of (vrl_cons hr vrl_nil) ?_, hl2⟩
  have h1 := ss_one hr
  simp [h1]
end
end Go.Ab
end
section
namespace Go.Ab
open Go Go.Proofs
section
variable {H : Type} {enc : TypeId × Value → H} {W : World}
theorem cells5 : Tryz.prog.cellsOf 5 = 1 := by kernel_rfl
theorem rd_bytes {r : Reach} {base : Nat} {v : Value} (hv : Value.okWide Tryz.prog W r base 56 v) (h : Reads enc Tryz.prog W 56 v.cells.toList) :
  ∃ (l : List Int) (fl : Bool), VR (C0 W) (.ss (l.map (V.i .u8)) l.length fl) v ∧ (l.length : Int) < 9223372036854775808 ∧ ∀ x ∈ l, 0 ≤ x ∧ x < 256 := by
 obtain ⟨a0, len, cap, rfl⟩ := WideShapes.okWide_slice Tryz.underlying56 hv
 obtain ⟨l, full, v', e, hr, hl, hb⟩ := rd_ints Tryz.underlying56 Tryz.underlying5 cells5 h
 have hv' : v' = .slice a0 len cap := by simpa [Value.cells] using e.symm
 subst hv'
 exact ⟨l, full, hr, hl, fun x hx => by have := hb x hx; simp [IntKind.min, IntKind.max, IntKind.signed, IntKind.bits] at this; omega⟩
end
end Go.Ab
end
