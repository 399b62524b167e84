/-
  No cell of these rows narrows 'for every input' (looked for: loops, veiled, ifaces, maps, wideKeys, modest, calm, conditions, laid).
  DERIVED. THE GIVEN ROWS OF THIS SEAT. 12 by the template 'for every input the law returns true; each argument reads behind the call as it read before'; 0 by the template 'total and deterministic' (their statements: YtkcfknlpdfgjnaaTotals.lean).
  GIVEN WITH THE SEED: the statements are not yours to turn. If you find one false, say at which input.
  Laid BY PROGRAM, IN A SANDBOX (cutbox-rows.mjs): the forced cells as the released guide's own fill.sh prints them over the translation fe4da01912c0cada… (all of the seat's roots in one cut). By AI agents, Wed Nov 11 2026. No macro, syntax, notation, axiom, sorry.
-/
import Derived.Test.YtkcfknlpdfgjnaaChecked
import GoSem.Claim
import GoSem.ClaimJoined
import GoSem.ClaimMapViews
import Derived.JoinedTies
import Derived.KernelRfl
namespace Go.Proofs.Ytkcfknlpdfgjnaa
/- THE CELL 'sum', in the pinned program and in every row, IS THE sha256 OF THE DUMP (.gsa) THAT YtkcfknlpdfgjnaaProg.lean LOADS. Nothing in Lean hashes anything: it is a label: what it is worth is what the hold of that sum in a sandbox is worth. -/
noncomputable def Try.pinned : Pinned := { name := "ytkcfknlpdfgjnaa", sum := "fe4da01912c0cada9258ee107cfc3de8dbe2e8d44d4b0ad9707c4abbad196824", checked := Try.checked }
namespace Rows
def none {H : Type} : Left H := { results := [], args := [] }

/-- 'peaveylaw09.LockTows': WHATEVER THE INPUT: true; the input reads as it did. -/
def lockTowsSpec : ChangeSpec := { name := "lockTows", fn := fun _ => fun
  | [d1, d2] => { results := [.lit (.bool true)], args := [d1, d2] }
  | _ => none }
def lockTowsRow : OpenClaim := { program := "ytkcfknlpdfgjnaa", sum := "fe4da01912c0cada9258ee107cfc3de8dbe2e8d44d4b0ad9707c4abbad196824", func := "peavey/peaveylaw09.LockTows", spec := "lockTows", unfollowed := true, recurses := true, plainKeys := false, apart := false }
def LockTowsSaid : Prop := lockTowsRow.holds Try.pinned (OpenSpec.ofChange lockTowsSpec)

/-- ITS FALSE NEIGHBOUR: 'it returns false'. Refute it at one input. -/
def lockTowsWrong : ChangeSpec := { name := "lockTows", fn := fun _ => fun
  | [d1, d2] => { results := [.lit (.bool false)], args := [d1, d2] }
  | _ => none }
def LockTowsWrongFalsely : Prop := lockTowsRow.holds Try.pinned (OpenSpec.ofChange lockTowsWrong)

/-- 'peaveylaw09.LockBests': WHATEVER THE INPUT: true; the input reads as it did. -/
def lockBestsSpec : ChangeSpec := { name := "lockBests", fn := fun _ => fun
  | [d] => { results := [.lit (.bool true)], args := [d] }
  | _ => none }
def lockBestsRow : OpenClaim := { program := "ytkcfknlpdfgjnaa", sum := "fe4da01912c0cada9258ee107cfc3de8dbe2e8d44d4b0ad9707c4abbad196824", func := "peavey/peaveylaw09.LockBests", spec := "lockBests", unfollowed := true, recurses := true, plainKeys := false, apart := false }
def LockBestsSaid : Prop := lockBestsRow.holds Try.pinned (OpenSpec.ofChange lockBestsSpec)

/-- ITS FALSE NEIGHBOUR: 'it returns false'. Refute it at one input. -/
def lockBestsWrong : ChangeSpec := { name := "lockBests", fn := fun _ => fun
  | [d] => { results := [.lit (.bool false)], args := [d] }
  | _ => none }
def LockBestsWrongFalsely : Prop := lockBestsRow.holds Try.pinned (OpenSpec.ofChange lockBestsWrong)

/-- 'peaveylaw09.LockRules': WHATEVER THE INPUT: true; the input reads as it did. -/
def lockRulesSpec : ChangeSpec := { name := "lockRules", fn := fun _ => fun
  | [d1, d2, d3] => { results := [.lit (.bool true)], args := [d1, d2, d3] }
  | _ => none }
def lockRulesRow : OpenClaim := { program := "ytkcfknlpdfgjnaa", sum := "fe4da01912c0cada9258ee107cfc3de8dbe2e8d44d4b0ad9707c4abbad196824", func := "peavey/peaveylaw09.LockRules", spec := "lockRules", unfollowed := true, recurses := true, plainKeys := false, apart := false }
def LockRulesSaid : Prop := lockRulesRow.holds Try.pinned (OpenSpec.ofChange lockRulesSpec)

/-- ITS FALSE NEIGHBOUR: 'it returns false'. Refute it at one input. -/
def lockRulesWrong : ChangeSpec := { name := "lockRules", fn := fun _ => fun
  | [d1, d2, d3] => { results := [.lit (.bool false)], args := [d1, d2, d3] }
  | _ => none }
def LockRulesWrongFalsely : Prop := lockRulesRow.holds Try.pinned (OpenSpec.ofChange lockRulesWrong)

/-- 'peaveylaw09.LockRooms': WHATEVER THE INPUT: true; the input reads as it did. -/
def lockRoomsSpec : ChangeSpec := { name := "lockRooms", fn := fun _ => fun
  | [d] => { results := [.lit (.bool true)], args := [d] }
  | _ => none }
def lockRoomsRow : OpenClaim := { program := "ytkcfknlpdfgjnaa", sum := "fe4da01912c0cada9258ee107cfc3de8dbe2e8d44d4b0ad9707c4abbad196824", func := "peavey/peaveylaw09.LockRooms", spec := "lockRooms", unfollowed := true, recurses := true, plainKeys := false, apart := false }
def LockRoomsSaid : Prop := lockRoomsRow.holds Try.pinned (OpenSpec.ofChange lockRoomsSpec)

/-- ITS FALSE NEIGHBOUR: 'it returns false'. Refute it at one input. -/
def lockRoomsWrong : ChangeSpec := { name := "lockRooms", fn := fun _ => fun
  | [d] => { results := [.lit (.bool false)], args := [d] }
  | _ => none }
def LockRoomsWrongFalsely : Prop := lockRoomsRow.holds Try.pinned (OpenSpec.ofChange lockRoomsWrong)

/-- 'peaveylaw09.LockProved': WHATEVER THE INPUT: true; the input reads as it did. -/
def lockProvedSpec : ChangeSpec := { name := "lockProved", fn := fun _ => fun
  | [d1, d2, d3, d4] => { results := [.lit (.bool true)], args := [d1, d2, d3, d4] }
  | _ => none }
def lockProvedRow : OpenClaim := { program := "ytkcfknlpdfgjnaa", sum := "fe4da01912c0cada9258ee107cfc3de8dbe2e8d44d4b0ad9707c4abbad196824", func := "peavey/peaveylaw09.LockProved", spec := "lockProved", unfollowed := true, recurses := true, plainKeys := false, apart := false }
def LockProvedSaid : Prop := lockProvedRow.holds Try.pinned (OpenSpec.ofChange lockProvedSpec)

/-- ITS FALSE NEIGHBOUR: 'it returns false'. Refute it at one input. -/
def lockProvedWrong : ChangeSpec := { name := "lockProved", fn := fun _ => fun
  | [d1, d2, d3, d4] => { results := [.lit (.bool false)], args := [d1, d2, d3, d4] }
  | _ => none }
def LockProvedWrongFalsely : Prop := lockProvedRow.holds Try.pinned (OpenSpec.ofChange lockProvedWrong)

/-- 'peaveylaw09.LockOrders': WHATEVER THE INPUT: true; the input reads as it did. -/
def lockOrdersSpec : ChangeSpec := { name := "lockOrders", fn := fun _ => fun
  | [d1, d2] => { results := [.lit (.bool true)], args := [d1, d2] }
  | _ => none }
def lockOrdersRow : OpenClaim := { program := "ytkcfknlpdfgjnaa", sum := "fe4da01912c0cada9258ee107cfc3de8dbe2e8d44d4b0ad9707c4abbad196824", func := "peavey/peaveylaw09.LockOrders", spec := "lockOrders", unfollowed := true, recurses := true, plainKeys := false, apart := false }
def LockOrdersSaid : Prop := lockOrdersRow.holds Try.pinned (OpenSpec.ofChange lockOrdersSpec)

/-- ITS FALSE NEIGHBOUR: 'it returns false'. Refute it at one input. -/
def lockOrdersWrong : ChangeSpec := { name := "lockOrders", fn := fun _ => fun
  | [d1, d2] => { results := [.lit (.bool false)], args := [d1, d2] }
  | _ => none }
def LockOrdersWrongFalsely : Prop := lockOrdersRow.holds Try.pinned (OpenSpec.ofChange lockOrdersWrong)

/-- 'peaveylaw09.LockRoom': WHATEVER THE INPUT: true; the input reads as it did. -/
def lockRoomSpec : ChangeSpec := { name := "lockRoom", fn := fun _ => fun
  | [d1, d2, d3, d4] => { results := [.lit (.bool true)], args := [d1, d2, d3, d4] }
  | _ => none }
def lockRoomRow : OpenClaim := { program := "ytkcfknlpdfgjnaa", sum := "fe4da01912c0cada9258ee107cfc3de8dbe2e8d44d4b0ad9707c4abbad196824", func := "peavey/peaveylaw09.LockRoom", spec := "lockRoom", unfollowed := true, recurses := true, plainKeys := false, apart := false }
def LockRoomSaid : Prop := lockRoomRow.holds Try.pinned (OpenSpec.ofChange lockRoomSpec)

/-- ITS FALSE NEIGHBOUR: 'it returns false'. Refute it at one input. -/
def lockRoomWrong : ChangeSpec := { name := "lockRoom", fn := fun _ => fun
  | [d1, d2, d3, d4] => { results := [.lit (.bool false)], args := [d1, d2, d3, d4] }
  | _ => none }
def LockRoomWrongFalsely : Prop := lockRoomRow.holds Try.pinned (OpenSpec.ofChange lockRoomWrong)

/-- 'peaveylaw09.LockBack': WHATEVER THE INPUT: true; the input reads as it did. -/
def lockBackSpec : ChangeSpec := { name := "lockBack", fn := fun _ => fun
  | [d1, d2, d3, d4] => { results := [.lit (.bool true)], args := [d1, d2, d3, d4] }
  | _ => none }
def lockBackRow : OpenClaim := { program := "ytkcfknlpdfgjnaa", sum := "fe4da01912c0cada9258ee107cfc3de8dbe2e8d44d4b0ad9707c4abbad196824", func := "peavey/peaveylaw09.LockBack", spec := "lockBack", unfollowed := true, recurses := true, plainKeys := false, apart := false }
def LockBackSaid : Prop := lockBackRow.holds Try.pinned (OpenSpec.ofChange lockBackSpec)

/-- ITS FALSE NEIGHBOUR: 'it returns false'. Refute it at one input. -/
def lockBackWrong : ChangeSpec := { name := "lockBack", fn := fun _ => fun
  | [d1, d2, d3, d4] => { results := [.lit (.bool false)], args := [d1, d2, d3, d4] }
  | _ => none }
def LockBackWrongFalsely : Prop := lockBackRow.holds Try.pinned (OpenSpec.ofChange lockBackWrong)

/-- 'peaveylaw09.LockLess': WHATEVER THE INPUT: true; the input reads as it did. -/
def lockLessSpec : ChangeSpec := { name := "lockLess", fn := fun _ => fun
  | [d1, d2, d3, d4] => { results := [.lit (.bool true)], args := [d1, d2, d3, d4] }
  | _ => none }
def lockLessRow : OpenClaim := { program := "ytkcfknlpdfgjnaa", sum := "fe4da01912c0cada9258ee107cfc3de8dbe2e8d44d4b0ad9707c4abbad196824", func := "peavey/peaveylaw09.LockLess", spec := "lockLess", unfollowed := true, recurses := true, plainKeys := false, apart := false }
def LockLessSaid : Prop := lockLessRow.holds Try.pinned (OpenSpec.ofChange lockLessSpec)

/-- ITS FALSE NEIGHBOUR: 'it returns false'. Refute it at one input. -/
def lockLessWrong : ChangeSpec := { name := "lockLess", fn := fun _ => fun
  | [d1, d2, d3, d4] => { results := [.lit (.bool false)], args := [d1, d2, d3, d4] }
  | _ => none }
def LockLessWrongFalsely : Prop := lockLessRow.holds Try.pinned (OpenSpec.ofChange lockLessWrong)

/-- 'peaveylaw09.LockTimes': WHATEVER THE INPUT: true; the input reads as it did. -/
def lockTimesSpec : ChangeSpec := { name := "lockTimes", fn := fun _ => fun
  | [d1, d2, d3, d4, d5] => { results := [.lit (.bool true)], args := [d1, d2, d3, d4, d5] }
  | _ => none }
def lockTimesRow : OpenClaim := { program := "ytkcfknlpdfgjnaa", sum := "fe4da01912c0cada9258ee107cfc3de8dbe2e8d44d4b0ad9707c4abbad196824", func := "peavey/peaveylaw09.LockTimes", spec := "lockTimes", unfollowed := true, recurses := true, plainKeys := false, apart := false }
def LockTimesSaid : Prop := lockTimesRow.holds Try.pinned (OpenSpec.ofChange lockTimesSpec)

/-- ITS FALSE NEIGHBOUR: 'it returns false'. Refute it at one input. -/
def lockTimesWrong : ChangeSpec := { name := "lockTimes", fn := fun _ => fun
  | [d1, d2, d3, d4, d5] => { results := [.lit (.bool false)], args := [d1, d2, d3, d4, d5] }
  | _ => none }
def LockTimesWrongFalsely : Prop := lockTimesRow.holds Try.pinned (OpenSpec.ofChange lockTimesWrong)

/-- 'peaveylaw09.LockSteps': WHATEVER THE INPUT: true; the input reads as it did. -/
def lockStepsSpec : ChangeSpec := { name := "lockSteps", fn := fun _ => fun
  | [d1, d2] => { results := [.lit (.bool true)], args := [d1, d2] }
  | _ => none }
def lockStepsRow : OpenClaim := { program := "ytkcfknlpdfgjnaa", sum := "fe4da01912c0cada9258ee107cfc3de8dbe2e8d44d4b0ad9707c4abbad196824", func := "peavey/peaveylaw09.LockSteps", spec := "lockSteps", unfollowed := true, recurses := true, plainKeys := false, apart := false }
def LockStepsSaid : Prop := lockStepsRow.holds Try.pinned (OpenSpec.ofChange lockStepsSpec)

/-- ITS FALSE NEIGHBOUR: 'it returns false'. Refute it at one input. -/
def lockStepsWrong : ChangeSpec := { name := "lockSteps", fn := fun _ => fun
  | [d1, d2] => { results := [.lit (.bool false)], args := [d1, d2] }
  | _ => none }
def LockStepsWrongFalsely : Prop := lockStepsRow.holds Try.pinned (OpenSpec.ofChange lockStepsWrong)

/-- 'peaveylaw09.LockKnown': WHATEVER THE INPUT: true; the input reads as it did. -/
def lockKnownSpec : ChangeSpec := { name := "lockKnown", fn := fun _ => fun
  | [] => { results := [.lit (.bool true)], args := [] }
  | _ => none }
def lockKnownRow : OpenClaim := { program := "ytkcfknlpdfgjnaa", sum := "fe4da01912c0cada9258ee107cfc3de8dbe2e8d44d4b0ad9707c4abbad196824", func := "peavey/peaveylaw09.LockKnown", spec := "lockKnown", unfollowed := true, recurses := true, plainKeys := false, apart := false }
def LockKnownSaid : Prop := lockKnownRow.holds Try.pinned (OpenSpec.ofChange lockKnownSpec)

/-- ITS FALSE NEIGHBOUR: 'it returns false'. Refute it at one input. -/
def lockKnownWrong : ChangeSpec := { name := "lockKnown", fn := fun _ => fun
  | [] => { results := [.lit (.bool false)], args := [] }
  | _ => none }
def LockKnownWrongFalsely : Prop := lockKnownRow.holds Try.pinned (OpenSpec.ofChange lockKnownWrong)

/- THE SECOND FORM. 'bulk': how many values and letters a reading holds, each counted each time it is reached (what is shared counts as often as it is met; a slice's spare places count too). A statement '..UptoSaid' is the law's where the arguments, and the package variables that the reading takes, are together of bulk at most 1048576: NARROWER than '..Said'. Prove '..Said' where nothing that the law and all that it calls make is longer than what came in: it says more and counts as full. Else prove '..UptoSaid'. A law counts once. -/
mutual
def uptoBulk {H : Type} : DataW H → Nat
  | .lit (.string bytes) => bytes.length + 1
  | .lit _ => 1
  | .nil => 1
  | .ptr d => uptoBulk d + 1
  | .slice elems spare => uptoBulkAll elems + uptoBulkAll spare + 1
  | .agg parts => uptoBulkAll parts + 1
  | .iface _ d => uptoBulk d + 1
  | .map entries => uptoBulkEntries entries + 1
  | .held _ => 1
def uptoBulkAll {H : Type} : List (DataW H) → Nat
  | [] => 0
  | d :: r => uptoBulk d + uptoBulkAll r
def uptoBulkEntries {H : Type} : List (Lit × DataW H) → Nat
  | [] => 0
  | x :: r => uptoBulkEntry x + uptoBulkEntries r
def uptoBulkEntry {H : Type} : Lit × DataW H → Nat
  | (.string bytes, d) => bytes.length + uptoBulk d + 1
  | (_, d) => uptoBulk d + 1
 end
def uptoSmall : (H : Type) → List (DataW H) → Bool := fun _ ds => decide (uptoBulkAll ds ≤ 1048576)
def OpenSpec.upto (s : _root_.Go.ChangeSpec) : _root_.Go.OpenSpec := { _root_.Go.OpenSpec.ofChange s with cond := some uptoSmall }

/-- 'peaveylaw09.LockTows', WHERE WHAT IT READS IS OF BULK AT MOST 1048576: true; the input reads as it did. -/
def lockTowsUptoRow : OpenClaim := { program := "ytkcfknlpdfgjnaa", sum := "fe4da01912c0cada9258ee107cfc3de8dbe2e8d44d4b0ad9707c4abbad196824", func := "peavey/peaveylaw09.LockTows", spec := "lockTows", unfollowed := true, recurses := true, plainKeys := false, apart := false, narrowed := true }
def LockTowsUptoSaid : Prop := lockTowsUptoRow.holds Try.pinned (OpenSpec.upto lockTowsSpec)

/-- 'peaveylaw09.LockBests', WHERE WHAT IT READS IS OF BULK AT MOST 1048576: true; the input reads as it did. -/
def lockBestsUptoRow : OpenClaim := { program := "ytkcfknlpdfgjnaa", sum := "fe4da01912c0cada9258ee107cfc3de8dbe2e8d44d4b0ad9707c4abbad196824", func := "peavey/peaveylaw09.LockBests", spec := "lockBests", unfollowed := true, recurses := true, plainKeys := false, apart := false, narrowed := true }
def LockBestsUptoSaid : Prop := lockBestsUptoRow.holds Try.pinned (OpenSpec.upto lockBestsSpec)

/-- 'peaveylaw09.LockRules', WHERE WHAT IT READS IS OF BULK AT MOST 1048576: true; the input reads as it did. -/
def lockRulesUptoRow : OpenClaim := { program := "ytkcfknlpdfgjnaa", sum := "fe4da01912c0cada9258ee107cfc3de8dbe2e8d44d4b0ad9707c4abbad196824", func := "peavey/peaveylaw09.LockRules", spec := "lockRules", unfollowed := true, recurses := true, plainKeys := false, apart := false, narrowed := true }
def LockRulesUptoSaid : Prop := lockRulesUptoRow.holds Try.pinned (OpenSpec.upto lockRulesSpec)

/-- 'peaveylaw09.LockRooms', WHERE WHAT IT READS IS OF BULK AT MOST 1048576: true; the input reads as it did. -/
def lockRoomsUptoRow : OpenClaim := { program := "ytkcfknlpdfgjnaa", sum := "fe4da01912c0cada9258ee107cfc3de8dbe2e8d44d4b0ad9707c4abbad196824", func := "peavey/peaveylaw09.LockRooms", spec := "lockRooms", unfollowed := true, recurses := true, plainKeys := false, apart := false, narrowed := true }
def LockRoomsUptoSaid : Prop := lockRoomsUptoRow.holds Try.pinned (OpenSpec.upto lockRoomsSpec)

/-- 'peaveylaw09.LockProved', WHERE WHAT IT READS IS OF BULK AT MOST 1048576: true; the input reads as it did. -/
def lockProvedUptoRow : OpenClaim := { program := "ytkcfknlpdfgjnaa", sum := "fe4da01912c0cada9258ee107cfc3de8dbe2e8d44d4b0ad9707c4abbad196824", func := "peavey/peaveylaw09.LockProved", spec := "lockProved", unfollowed := true, recurses := true, plainKeys := false, apart := false, narrowed := true }
def LockProvedUptoSaid : Prop := lockProvedUptoRow.holds Try.pinned (OpenSpec.upto lockProvedSpec)

/-- 'peaveylaw09.LockOrders', WHERE WHAT IT READS IS OF BULK AT MOST 1048576: true; the input reads as it did. -/
def lockOrdersUptoRow : OpenClaim := { program := "ytkcfknlpdfgjnaa", sum := "fe4da01912c0cada9258ee107cfc3de8dbe2e8d44d4b0ad9707c4abbad196824", func := "peavey/peaveylaw09.LockOrders", spec := "lockOrders", unfollowed := true, recurses := true, plainKeys := false, apart := false, narrowed := true }
def LockOrdersUptoSaid : Prop := lockOrdersUptoRow.holds Try.pinned (OpenSpec.upto lockOrdersSpec)

/-- 'peaveylaw09.LockRoom', WHERE WHAT IT READS IS OF BULK AT MOST 1048576: true; the input reads as it did. -/
def lockRoomUptoRow : OpenClaim := { program := "ytkcfknlpdfgjnaa", sum := "fe4da01912c0cada9258ee107cfc3de8dbe2e8d44d4b0ad9707c4abbad196824", func := "peavey/peaveylaw09.LockRoom", spec := "lockRoom", unfollowed := true, recurses := true, plainKeys := false, apart := false, narrowed := true }
def LockRoomUptoSaid : Prop := lockRoomUptoRow.holds Try.pinned (OpenSpec.upto lockRoomSpec)

/-- 'peaveylaw09.LockBack', WHERE WHAT IT READS IS OF BULK AT MOST 1048576: true; the input reads as it did. -/
def lockBackUptoRow : OpenClaim := { program := "ytkcfknlpdfgjnaa", sum := "fe4da01912c0cada9258ee107cfc3de8dbe2e8d44d4b0ad9707c4abbad196824", func := "peavey/peaveylaw09.LockBack", spec := "lockBack", unfollowed := true, recurses := true, plainKeys := false, apart := false, narrowed := true }
def LockBackUptoSaid : Prop := lockBackUptoRow.holds Try.pinned (OpenSpec.upto lockBackSpec)

/-- 'peaveylaw09.LockLess', WHERE WHAT IT READS IS OF BULK AT MOST 1048576: true; the input reads as it did. -/
def lockLessUptoRow : OpenClaim := { program := "ytkcfknlpdfgjnaa", sum := "fe4da01912c0cada9258ee107cfc3de8dbe2e8d44d4b0ad9707c4abbad196824", func := "peavey/peaveylaw09.LockLess", spec := "lockLess", unfollowed := true, recurses := true, plainKeys := false, apart := false, narrowed := true }
def LockLessUptoSaid : Prop := lockLessUptoRow.holds Try.pinned (OpenSpec.upto lockLessSpec)

/-- 'peaveylaw09.LockTimes', WHERE WHAT IT READS IS OF BULK AT MOST 1048576: true; the input reads as it did. -/
def lockTimesUptoRow : OpenClaim := { program := "ytkcfknlpdfgjnaa", sum := "fe4da01912c0cada9258ee107cfc3de8dbe2e8d44d4b0ad9707c4abbad196824", func := "peavey/peaveylaw09.LockTimes", spec := "lockTimes", unfollowed := true, recurses := true, plainKeys := false, apart := false, narrowed := true }
def LockTimesUptoSaid : Prop := lockTimesUptoRow.holds Try.pinned (OpenSpec.upto lockTimesSpec)

/-- 'peaveylaw09.LockSteps', WHERE WHAT IT READS IS OF BULK AT MOST 1048576: true; the input reads as it did. -/
def lockStepsUptoRow : OpenClaim := { program := "ytkcfknlpdfgjnaa", sum := "fe4da01912c0cada9258ee107cfc3de8dbe2e8d44d4b0ad9707c4abbad196824", func := "peavey/peaveylaw09.LockSteps", spec := "lockSteps", unfollowed := true, recurses := true, plainKeys := false, apart := false, narrowed := true }
def LockStepsUptoSaid : Prop := lockStepsUptoRow.holds Try.pinned (OpenSpec.upto lockStepsSpec)

/-- 'peaveylaw09.LockKnown', WHERE WHAT IT READS IS OF BULK AT MOST 1048576: true; the input reads as it did. -/
def lockKnownUptoRow : OpenClaim := { program := "ytkcfknlpdfgjnaa", sum := "fe4da01912c0cada9258ee107cfc3de8dbe2e8d44d4b0ad9707c4abbad196824", func := "peavey/peaveylaw09.LockKnown", spec := "lockKnown", unfollowed := true, recurses := true, plainKeys := false, apart := false, narrowed := true }
def LockKnownUptoSaid : Prop := lockKnownUptoRow.holds Try.pinned (OpenSpec.upto lockKnownSpec)

end Rows
end Go.Proofs.Ytkcfknlpdfgjnaa
