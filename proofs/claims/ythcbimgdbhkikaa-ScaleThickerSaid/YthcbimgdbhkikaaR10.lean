/- The law ScaleThicker. -/
import Derived.Test.YthcbimgdbhkikaaRD
import Derived.Test.YthcbimgdbhkikaaP10
set_option linter.unusedVariables false
set_option maxRecDepth 100000
set_option maxHeartbeats 4000000
open Go
namespace Go.Proofs.Ythcbimgdbhkikaa.scaleThicker
open Go.ChangeShapes Go.WideShapes Go.ChangeAt Go.RowKit Go.Ab

theorem own : ownKnob Try.prog.godebug = none := by kernel_rfl
theorem laidOut : laidOutB Try.prog = true := by kernel_rfl

theorem lifted (os : Os) (started : os.Started) (H : Type) (enc : TypeId × Value → H) :
    ReturnsInHanded {} Try.checked os 10 .any (Rows.scaleThickerSpec.pre6 enc Try.prog Try.f10 Rows.scaleThickerRow.domain false) (Rows.scaleThickerSpec.post enc Try.prog Try.f10 false true false false) := by
  refine returnsInHanded_of_change (C := Try.checked) own started (by kernel_rfl) Try.func10
    (ChangeSpec.witness6 (enc := enc) (C := Try.checked) false ⟨#[], #[.agg #[.slice none 0 0, .slice none 0 0], .agg #[.int .i64 0, .int .i64 0, .int .i64 0, .int .i64 0, .int .i64 0, .int .i64 0, .int .i64 0], .slice none 0 0, .int .u8 0], []⟩ 8 (by kernel_rfl) (by kernel_rfl) (by kernel_rfl) (by kernel_rfl)) ?_
  intro W base args ds gs before hval0 hW hcnd _
  have hval : ∀ (j : Nat) t v, Try.f10.params[j]? = some t → args[j]? = some v → Value.okWide Try.prog W .any base t v := hval0
  have hW' := hW
  obtain ⟨p, q, hA0, hV, rfl, hfz, hnd⟩ := hW
  have hA : DataW.TrodAll enc Try.prog W 0 (fun _ => true) true Try.f10.params.toList args.toList ds p := hA0
  obtain ⟨rfl, rfl⟩ := trodVars_none hV
  clear hA0 hval0
  simp only [List.append_nil] at hW'
  have hlt : ∀ x ∈ p, x.block < W.heap.size := fun x hx => by simpa using hW'.lt x hx
  obtain ⟨hl, hld, hrd⟩ := trodAll_reads hA
  rw [Try.params10] at hl hld hrd hval
  obtain ⟨al⟩ := args
  obtain ⟨v0, v1, v2, v3, rfl⟩ := len4 (l := al) hl
  obtain ⟨d0, d1, d2, d3, rfl⟩ := len4 (l := ds) hld
  obtain ⟨t, ft, b, fb, r0, l1, l2, -, b2⟩ := rd_stem (hval 0 25 v0 rfl rfl) (hrd 0 25 v0 rfl rfl)
  obtain ⟨ru, r1⟩ := rd_rule (hval 1 27 v1 rfl rfl) (hrd 1 27 v1 rfl rfl)
  obtain ⟨mo, fm, r2, m1, m2⟩ := rd_bytes (hval 2 57 v2 rfl rfl) (hrd 2 57 v2 rfl rfl)
  obtain ⟨k, r3, q1, q2⟩ := rd_byte (hval 3 5 v3 rfl rfl) (hrd 3 5 v3 rfl rfl)
  refine (walk_of (Go.Ab.scaleThicker l1 l2 b2 m1 m2 ⟨q1, q2⟩) (vrl_cons r0 (vrl_cons r1 (vrl_cons r2 (vrl_cons r3 vrl_nil))))).mono fun e W' ⟨he, hb⟩ => ?_
  subst he
  exact ⟨_, rfl, _, _, _, [], p, [], hW', trodAll_mk1 (shut_bool Try.underlying4 _), trodAll_below laidOut hb (by rw [Try.params10]; decide +kernel) hA hlt, rfl, hb.frame _, fun h => by cases h⟩

theorem over : Rows.scaleThickerRow.holds Try.pinned (OpenSpec.ofChange Rows.scaleThickerSpec) :=
  OpenClaim.holds_of_wide 10 Try.f10 rfl rfl rfl rfl rfl rfl rfl ⟨rfl, rfl, rfl, rfl, rfl⟩ rfl rfl rfl rfl rfl (by kernel_rfl) Try.func10 (by kernel_rfl)
    (of_decide_eq_true (by kernel_rfl)) (by unfold Func.isWrapper; first | (rw [if_pos (by decide +kernel)]; kernel_rfl) | (rw [if_neg (by decide +kernel)]; exact ⟨rfl, rfl⟩))
    (fun os started H enc _ => lifted os started H enc)

theorem proved : Rows.ScaleThickerSaid := over
#print axioms proved
end Go.Proofs.Ythcbimgdbhkikaa.scaleThicker
