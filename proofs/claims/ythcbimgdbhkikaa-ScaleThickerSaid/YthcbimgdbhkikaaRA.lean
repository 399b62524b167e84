/- What arguments of the laws of scale read as. -/
import Derived.Test.YthcbimgdbhkikaaRows
import Derived.WalkKit
import Derived.ProofKit
import Derived.OpenShut
import Derived.Test.YthcbimgdbhkikaaS2
import Derived.Test.YthcbimgdbhkikaaC6
set_option linter.unusedVariables false
set_option linter.constructorNameAsVariable false
set_option maxRecDepth 100000
set_option maxHeartbeats 4000000
namespace Go.Ab
open Go Go.Proofs
section
variable {H : Type} {enc : TypeId × Value → H} {W : World}
theorem cells2 : Try.prog.cellsOf 2 = 1 := by kernel_rfl
theorem cells3 : Try.prog.cellsOf 3 = 1 := by kernel_rfl
theorem cells22 : Try.prog.cellsOf 22 = 1 := by kernel_rfl
theorem cells23 : Try.prog.cellsOf 23 = 1 := by kernel_rfl
theorem cells25 : Try.prog.cellsOf 25 = 2 := by kernel_rfl
theorem cells27 : Try.prog.cellsOf 27 = 7 := by kernel_rfl
theorem cells29 : Try.prog.cellsOf 29 = 2 := by kernel_rfl

/-- What a stem reads as. -/
theorem rd_stem {r : Reach} {base : Nat} {v : Value} (hv : Value.okWide Try.prog W r base 25 v) (h : Reads enc Try.prog W 25 v.cells.toList) :
    ∃ t ft b fb, VR (C0 W) (.agg [sl t ft, sl b fb]) v ∧ (t.length : Int) < 9223372036854775808 ∧ (b.length : Int) < 9223372036854775808 ∧ (∀ x ∈ t, -9223372036854775808 ≤ x ∧ x < 9223372036854775808) ∧ ∀ x ∈ b, -9223372036854775808 ≤ x ∧ x < 9223372036854775808 := by
  obtain ⟨cs, rfl, hc⟩ := arg_agg Try.underlying25 hv
  rw [hc] at h
  obtain ⟨hl, hf⟩ := rd_struct Try.underlying25 h
  rw [cells25] at hl
  simp [cells22, cells23] at hf
  obtain ⟨h1, h2⟩ := hf
  obtain ⟨t, ft, v1, e1, r1, l1, b1⟩ := rd_ints Try.underlying22 Try.underlying2 cells2 h1
  obtain ⟨b, fb, v2, e2, r2, l2, b2⟩ := rd_ints Try.underlying23 Try.underlying3 cells3 h2
  obtain ⟨l⟩ := cs
  match l, hl with
  | [c1, c2], _ =>
    simp at e1 e2
    subst e1 e2
    refine ⟨t, ft, b, fb, agg_of (vrl_cons r1 (vrl_cons r2 vrl_nil)) ?_, l1, l2, fun x hx => ?_, fun x hx => ?_⟩
    · simp [ss_one r1, ss_one r2]
    · have := b1 x hx; simp [IntKind.min, IntKind.max, IntKind.signed, IntKind.bits] at this; omega
    · have := b2 x hx; simp [IntKind.min, IntKind.max, IntKind.signed, IntKind.bits] at this; omega

theorem rd_one {k : IntKind} {t : TypeId} (ht : Try.prog.underlying t = some (.int k)) {c : Value} (h : Reads enc Try.prog W t [c]) : ∃ n, c = .int k n ∧ k.min ≤ n ∧ n ≤ k.max := by
  obtain ⟨n, e, hn⟩ := rd_int ht h
  simp at e
  exact ⟨n, e, hn⟩

theorem rd_rule {r : Reach} {base : Nat} {v : Value} (hv : Value.okWide Try.prog W r base 27 v) (h : Reads enc Try.prog W 27 v.cells.toList) : ∃ r : Ru, VR (C0 W) (.agg r.cells) v := by
  obtain ⟨cs, rfl, hc⟩ := arg_agg Try.underlying27 hv
  rw [hc] at h
  obtain ⟨hl, hf⟩ := rd_struct Try.underlying27 h
  rw [cells27] at hl
  simp [cells2, cells3] at hf
  obtain ⟨l⟩ := cs
  match l, hl with
  | [c1, c2, c3, c4, c5, c6, c7], _ =>
    simp at hf
    obtain ⟨h1, h2, h3, h4, h5, h6, h7⟩ := hf
    obtain ⟨a1, rfl, -⟩ := rd_one Try.underlying3 h1
    obtain ⟨a2, rfl, -⟩ := rd_one Try.underlying3 h2
    obtain ⟨a3, rfl, -⟩ := rd_one Try.underlying3 h3
    obtain ⟨a4, rfl, -⟩ := rd_one Try.underlying3 h4
    obtain ⟨a5, rfl, -⟩ := rd_one Try.underlying2 h5
    obtain ⟨a6, rfl, -⟩ := rd_one Try.underlying2 h6
    obtain ⟨a7, rfl, -⟩ := rd_one Try.underlying2 h7
    refine ⟨⟨a1, a2, a3, a4, a5, a6, a7⟩, agg_of (vrl_cons (.i _ _) (vrl_cons (.i _ _) (vrl_cons (.i _ _) (vrl_cons (.i _ _) (vrl_cons (.i _ _) (vrl_cons (.i _ _) (vrl_cons (.i _ _) vrl_nil))))))) ?_⟩
    simp [one1, Value.oneCell']

theorem rd_log {r : Reach} {base : Nat} {v : Value} (hv : Value.okWide Try.prog W r base 29 v) (h : Reads enc Try.prog W 29 v.cells.toList) : ∃ x y : Int, VR (C0 W) (.agg [.i .i64 x, .i .i64 y]) v := by
  obtain ⟨cs, rfl, hc⟩ := arg_agg Try.underlying29 hv
  rw [hc] at h
  obtain ⟨hl, hf⟩ := rd_struct Try.underlying29 h
  rw [cells29] at hl
  simp [cells3] at hf
  obtain ⟨l⟩ := cs
  match l, hl with
  | [c1, c2], _ =>
    simp at hf
    obtain ⟨h1, h2⟩ := hf
    obtain ⟨a1, rfl, -⟩ := rd_one Try.underlying3 h1
    obtain ⟨a2, rfl, -⟩ := rd_one Try.underlying3 h2
    refine ⟨a1, a2, agg_of (vrl_cons (.i _ _) (vrl_cons (.i _ _) vrl_nil)) ?_⟩
    simp [one1, Value.oneCell']
end
end Go.Ab

