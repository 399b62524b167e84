/- The abstract layer, part 26: from a contract to what a row asks of a call: it returns true, and nothing that was there has turned. -/
import Derived.Test.YtchmfamkpfaieaaAbY
import Derived.Below
import Derived.Carry
set_option linter.unusedVariables false
set_option linter.unusedSimpArgs false
namespace Go.Ab
open Go Go.RowKit

/-- The context in which a call begins: all that is there is frozen. -/
def C0 (W : World) : Cx := { ρ := [], vs := [], Z := fun b => b < W.heap.size, w := W }
theorem C0_R (W : World) : R (C0 W) [] where
  wf := { len := rfl, inj := fun i j b p q hi => by simp [C0] at hi, lt := fun i b p hi => by simp [C0] at hi, zlt := fun b h => h, zρ := fun i b p hi => by simp [C0] at hi }
  len := rfl
  ver := fun id o ho => by simp at ho
  obj := fun id o blk bs ho => by simp at ho

theorem Ext.below {W : World} {C' : Cx} (h : Ext (C0 W) C') : Below W.heap.size W C'.w :=
  ⟨h.os, h.tape, h.output, h.size, fun k hk => h.frame k hk (fun i p hi => by simp [C0] at hi)⟩

theorem walk_of {P : Program} {f : FuncId} {args : List V} {cargs : List Value} {W : World} (h : FSpec P f args [] (.b true) []) (hv : VRl (C0 W) args cargs) :
    Calls P f cargs.toArray W fun e w' => e = .returned (.bool true) ∧ Below W.heap.size W w' := by
  refine (callsIn_wide.1 (h.2 (C0 W) cargs (C0_R W) hv)).mono ?_
  rintro e w' ⟨C', cv, rfl, rfl, h1, h2, h3⟩
  cases h3
  exact ⟨rfl, h2.below⟩
end Go.Ab
