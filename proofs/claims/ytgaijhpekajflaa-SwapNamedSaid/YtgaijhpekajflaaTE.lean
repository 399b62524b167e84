/- The law SwapNamed. -/
import Derived.Test.YtgaijhpekajflaaSR
import Derived.Test.YtgaijhpekajflaaQ14
set_option linter.unusedVariables false
set_option maxRecDepth 100000
set_option maxHeartbeats 4000000
open Go
namespace Go.Proofs.Ytgaijhpekajflaa.swapNamed
open Go.ChangeShapes Go.WideShapes Go.ChangeAt Go.RowKit Go.Ab

theorem own : ownKnob Try.prog.godebug = none := by kernel_rfl
theorem laidOut : laidOutB Try.prog = true := by kernel_rfl

theorem lifted (os : Os) (started : os.Started) (H : Type) (enc : TypeId × Value → H) :
    ReturnsInHanded {} Try.checked os 14 .any (Rows.swapNamedSpec.pre6 enc Try.prog Try.f14 Rows.swapNamedRow.domain false) (Rows.swapNamedSpec.post enc Try.prog Try.f14 false true false false) := by
  refine returnsInHanded_of_change (C := Try.checked) own started (by kernel_rfl) Try.func14
    (ChangeSpec.witness6 (enc := enc) (C := Try.checked) false ⟨#[], #[.agg #[.int .i64 0, .slice none 0 0], .slice none 0 0], []⟩ 8 (by kernel_rfl) (by kernel_rfl) (by kernel_rfl) (by kernel_rfl)) ?_
  intro W base args ds gs before hval0 hW hcnd _
  have hval : ∀ (j : Nat) t v, Try.f14.params[j]? = some t → args[j]? = some v → Value.okWide Try.prog W .any base t v := hval0
  have hW' := hW
  obtain ⟨p, q, hA0, hV, rfl, hfz, hnd⟩ := hW
  have hA : DataW.TrodAll enc Try.prog W 0 (fun _ => true) true Try.f14.params.toList args.toList ds p := hA0
  obtain ⟨rfl, rfl⟩ := trodVars_none hV
  clear hA0 hval0
  simp only [List.append_nil] at hW'
  have hlt : ∀ x ∈ p, x.block < W.heap.size := fun x hx => by simpa using hW'.lt x hx
  obtain ⟨hl, hld, hrd⟩ := trodAll_reads hA
  rw [Try.params14] at hl hld hrd hval
  obtain ⟨al⟩ := args
  obtain ⟨v0, v1, rfl⟩ := len2 (l := al) hl
  obtain ⟨d0, d1, rfl⟩ := len2 (l := ds) hld
  obtain ⟨n, D, f, r0, l0⟩ := rd_book (hval 0 24 v0 rfl rfl) (hrd 0 24 v0 rfl rfl)
  obtain ⟨by_, fb, r1, b1, b2⟩ := rd_bytes (hval 1 51 v1 rfl rfl) (hrd 1 51 v1 rfl rfl)
  refine (walk_of (Go.Ab.swapNamed l0 b1 b2) (vrl_cons r0 (vrl_cons r1 vrl_nil))).mono fun e W' ⟨he, hb⟩ => ?_
  subst he
  exact ⟨_, rfl, _, _, _, [], p, [], hW', trodAll_mk1 (shut_bool Try.underlying4 _), trodAll_below laidOut hb (by rw [Try.params14]; decide +kernel) hA hlt, rfl, hb.frame _, fun h => by cases h⟩

theorem over : Rows.swapNamedRow.holds Try.pinned (OpenSpec.ofChange Rows.swapNamedSpec) :=
  OpenClaim.holds_of_wide 14 Try.f14 rfl rfl rfl rfl rfl rfl rfl ⟨rfl, rfl, rfl, rfl, rfl⟩ rfl rfl rfl rfl rfl (by kernel_rfl) Try.func14 (by kernel_rfl)
    (of_decide_eq_true (by kernel_rfl)) (by unfold Func.isWrapper; first | (rw [if_pos (by decide +kernel)]; kernel_rfl) | (rw [if_neg (by decide +kernel)]; exact ⟨rfl, rfl⟩))
    (fun os started H enc _ => lifted os started H enc)

theorem proved : Rows.SwapNamedSaid := over
#print axioms proved
end Go.Proofs.Ytgaijhpekajflaa.swapNamed
