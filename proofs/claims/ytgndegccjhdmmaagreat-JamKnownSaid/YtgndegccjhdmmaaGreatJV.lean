/- JamKnown: run by evaluation. -/
import Derived.Test.YtgndegccjhdmmaaGreatJW
set_option maxRecDepth 1000000
namespace Go.Ab
open Go Go.Proofs
/-- Works is known to be true. -/
def orcM : FuncId → List V → Option V := fun f args =>
  match Nat.beq f 18 with
  | true => match args with | [] => some (.b true) | _ => none
  | false => orcS f args
theorem orcM_ok : OrcOK Tryz.prog orcM := by
  intro f args v h
  unfold orcM at h
  split at h
  · rename_i hf
    have := Nat.eq_of_beq_eq_true hf
    subst this
    split at h
    · cases h; exact works_ok
    · cases h
  · exact orcS_ok f args v h
def runM (f : FuncId) (args : List V) : Option (V × List O) := (callsX tr.get orcM oiS 3000 20).1 f args []
theorem runM_ok {f : FuncId} {args : List V} {v : V} (h : runM f args = some (v, [])) : FSpec Tryz.prog f args [] v [] := run_sound tr_ok orcM_ok mixed itT_ok oiS_ok h
theorem known_run : runM 16 [] = some (.b true, []) := by kernel_rfl
theorem known_ok : FSpec Tryz.prog 16 [] [] (.b true) [] := runM_ok known_run
end Go.Ab
