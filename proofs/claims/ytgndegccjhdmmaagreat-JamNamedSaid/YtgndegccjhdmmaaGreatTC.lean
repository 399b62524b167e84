import Derived.Test.YtgndegccjhdmmaaGreatPDx15
/- The law JamNamed. -/
set_option linter.unusedVariables false
set_option maxRecDepth 100000
set_option maxHeartbeats 4000000
open Go
namespace Go.Proofs.YtgndegccjhdmmaaGreat.jamNamed
open Go.ChangeShapes Go.WideShapes Go.ChangeAt Go.RowKit Go.Ab
theorem own : ownKnob Tryz.prog.godebug = none := by kernel_rfl
theorem laidOut : laidOutB Tryz.prog = true := by kernel_rfl
theorem lifted (os : Os) (started : os.Started) (H : Type) (enc : TypeId × Value → H) :
  ReturnsInHanded {} Tryz.checked os 13 .any (Rows.jamNamedSpec.pre6 enc Tryz.prog Tryz.f13 Rows.jamNamedRow.domain false) (Rows.jamNamedSpec.post enc Tryz.prog Tryz.f13 false true false false) := by
 refine returnsInHanded_of_change (C := Tryz.checked) own started (by kernel_rfl) Tryz.func13
  (ChangeSpec.witness6 (enc := enc) (C := Tryz.checked) false ⟨#[], #[.agg #[.slice none 0 0], .slice none 0 0], []⟩ 8 (by kernel_rfl) (by kernel_rfl) (by kernel_rfl) (by kernel_rfl)) ?_
 intro W base args ds gs before hval0 hW hcnd _
 have hval : ∀ (j : Nat) t v, Tryz.f13.params[j]? = some t → args[j]? = some v → Value.okWide Tryz.prog W .any base t v := hval0
 have hW' := hW
 obtain ⟨p, q, hA0, hV, rfl, hfz, hnd⟩ := hW
 have hA : DataW.TrodAll enc Tryz.prog W 0 (fun _ => true) true Tryz.f13.params.toList args.toList ds p := hA0
 obtain ⟨rfl, rfl⟩ := trodVars_none hV
 clear hA0 hval0
 simp only [List.append_nil] at hW'
 have hlt : ∀ x ∈ p, x.block < W.heap.size := fun x hx => by simpa using hW'.lt x hx
 obtain ⟨hl, hld, hrd⟩ := trodAll_reads hA
 rw [Tryz.params13] at hl hld hrd hval
 obtain ⟨al⟩ := args
 obtain ⟨v0, v1, rfl⟩ := len2 (l := al) hl
 obtain ⟨d0, d1, rfl⟩ := len2 (l := ds) hld
 obtain ⟨J, f, r0, l0⟩ := rd_jam (hval 0 24 v0 rfl rfl) (hrd 0 24 v0 rfl rfl)
 obtain ⟨sw, fs, r1, l1, b1⟩ := rd_bytes (hval 1 56 v1 rfl rfl) (hrd 1 56 v1 rfl rfl)
 refine (walk_of (Go.Ab.jamNamed l1 b1) (vrl_cons r0 (vrl_cons r1 vrl_nil))).mono fun e W' ⟨he, hb⟩ => ?_
 subst he
 exact ⟨_, rfl, _, _, _, [], p, [], hW', trodAll_mk1 (shut_bool Tryz.underlying4 _), trodAll_below laidOut hb (by rw [Tryz.params13]; decide +kernel) hA hlt, rfl, hb.frame _, fun h => by cases h⟩
theorem over : Rows.jamNamedRow.holds Tryz.pinned (OpenSpec.ofChange Rows.jamNamedSpec) :=
 OpenClaim.holds_of_wide 13 Tryz.f13 rfl rfl rfl rfl rfl rfl rfl ⟨rfl, rfl, rfl, rfl, rfl⟩ rfl rfl rfl rfl rfl (by kernel_rfl) Tryz.func13 (by kernel_rfl)
  (of_decide_eq_true (by kernel_rfl)) (by unfold Func.isWrapper; first | (rw [if_pos (by decide +kernel)]; kernel_rfl) | (rw [if_neg (by decide +kernel)]; exact ⟨rfl, rfl⟩))
  (fun os started H enc _ => lifted os started H enc)
theorem proved : Rows.JamNamedSaid := over
#print axioms proved
end Go.Proofs.YtgndegccjhdmmaaGreat.jamNamed
