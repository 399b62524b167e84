/-
  No cell of these rows narrows 'for every input' (looked for: loops, veiled, ifaces, maps, wideKeys, modest, calm, conditions, laid).
  DERIVED. THE GIVEN ROWS OF THIS SEAT. 14 by the template 'for every input the law returns true; each argument reads behind the call as it read before'; 0 by the template 'total and deterministic' (their statements: YtgaijhpekajflaaTotals.lean).
  GIVEN WITH THE SEED: the statements are not yours to turn. If you find one false, say at which input.
  Laid BY PROGRAM, IN A SANDBOX (cutbox-rows.mjs): the forced cells as the released guide's own fill.sh prints them over the translation 6a22ead3eb96ff3b… (all of the seat's roots in one cut). By AI agents, Wed Nov 11 2026. No macro, syntax, notation, axiom, sorry.
-/
import Derived.Test.YtgaijhpekajflaaChecked
import GoSem.Claim
import GoSem.ClaimJoined
import GoSem.ClaimMapViews
import Derived.JoinedTies
import Derived.KernelRfl
namespace Go.Proofs.Ytgaijhpekajflaa
/- THE CELL 'sum', in the pinned program and in every row, IS THE sha256 OF THE DUMP (.gsa) THAT YtgaijhpekajflaaProg.lean LOADS. Nothing in Lean hashes anything: it is a label: what it is worth is what the hold of that sum in a sandbox is worth. -/
noncomputable def Try.pinned : Pinned := { name := "ytgaijhpekajflaa", sum := "6a22ead3eb96ff3b6a308366f692dea686bc69437663f7330ea096ff0fef0c37", checked := Try.checked }
namespace Rows
def none {H : Type} : Left H := { results := [], args := [] }

/-- 'peaveylaw08.SwapBooks': WHATEVER THE INPUT: true; the input reads as it did. -/
def swapBooksSpec : ChangeSpec := { name := "swapBooks", fn := fun _ => fun
  | [d1, d2] => { results := [.lit (.bool true)], args := [d1, d2] }
  | _ => none }
def swapBooksRow : OpenClaim := { program := "ytgaijhpekajflaa", sum := "6a22ead3eb96ff3b6a308366f692dea686bc69437663f7330ea096ff0fef0c37", func := "peavey/peaveylaw08.SwapBooks", spec := "swapBooks", unfollowed := true, recurses := true, plainKeys := false, apart := false }
def SwapBooksSaid : Prop := swapBooksRow.holds Try.pinned (OpenSpec.ofChange swapBooksSpec)

/-- ITS FALSE NEIGHBOUR: 'it returns false'. Refute it at one input. -/
def swapBooksWrong : ChangeSpec := { name := "swapBooks", fn := fun _ => fun
  | [d1, d2] => { results := [.lit (.bool false)], args := [d1, d2] }
  | _ => none }
def SwapBooksWrongFalsely : Prop := swapBooksRow.holds Try.pinned (OpenSpec.ofChange swapBooksWrong)

/-- 'peaveylaw08.SwapDrafts': WHATEVER THE INPUT: true; the input reads as it did. -/
def swapDraftsSpec : ChangeSpec := { name := "swapDrafts", fn := fun _ => fun
  | [d] => { results := [.lit (.bool true)], args := [d] }
  | _ => none }
def swapDraftsRow : OpenClaim := { program := "ytgaijhpekajflaa", sum := "6a22ead3eb96ff3b6a308366f692dea686bc69437663f7330ea096ff0fef0c37", func := "peavey/peaveylaw08.SwapDrafts", spec := "swapDrafts", unfollowed := true, recurses := true, plainKeys := false, apart := false }
def SwapDraftsSaid : Prop := swapDraftsRow.holds Try.pinned (OpenSpec.ofChange swapDraftsSpec)

/-- ITS FALSE NEIGHBOUR: 'it returns false'. Refute it at one input. -/
def swapDraftsWrong : ChangeSpec := { name := "swapDrafts", fn := fun _ => fun
  | [d] => { results := [.lit (.bool false)], args := [d] }
  | _ => none }
def SwapDraftsWrongFalsely : Prop := swapDraftsRow.holds Try.pinned (OpenSpec.ofChange swapDraftsWrong)

/-- 'peaveylaw08.SwapGroups': WHATEVER THE INPUT: true; the input reads as it did. -/
def swapGroupsSpec : ChangeSpec := { name := "swapGroups", fn := fun _ => fun
  | [d1, d2] => { results := [.lit (.bool true)], args := [d1, d2] }
  | _ => none }
def swapGroupsRow : OpenClaim := { program := "ytgaijhpekajflaa", sum := "6a22ead3eb96ff3b6a308366f692dea686bc69437663f7330ea096ff0fef0c37", func := "peavey/peaveylaw08.SwapGroups", spec := "swapGroups", unfollowed := true, recurses := true, plainKeys := false, apart := false }
def SwapGroupsSaid : Prop := swapGroupsRow.holds Try.pinned (OpenSpec.ofChange swapGroupsSpec)

/-- ITS FALSE NEIGHBOUR: 'it returns false'. Refute it at one input. -/
def swapGroupsWrong : ChangeSpec := { name := "swapGroups", fn := fun _ => fun
  | [d1, d2] => { results := [.lit (.bool false)], args := [d1, d2] }
  | _ => none }
def SwapGroupsWrongFalsely : Prop := swapGroupsRow.holds Try.pinned (OpenSpec.ofChange swapGroupsWrong)

/-- 'peaveylaw08.SwapPrices': WHATEVER THE INPUT: true; the input reads as it did. -/
def swapPricesSpec : ChangeSpec := { name := "swapPrices", fn := fun _ => fun
  | [d1, d2] => { results := [.lit (.bool true)], args := [d1, d2] }
  | _ => none }
def swapPricesRow : OpenClaim := { program := "ytgaijhpekajflaa", sum := "6a22ead3eb96ff3b6a308366f692dea686bc69437663f7330ea096ff0fef0c37", func := "peavey/peaveylaw08.SwapPrices", spec := "swapPrices", unfollowed := true, recurses := true, plainKeys := false, apart := false }
def SwapPricesSaid : Prop := swapPricesRow.holds Try.pinned (OpenSpec.ofChange swapPricesSpec)

/-- ITS FALSE NEIGHBOUR: 'it returns false'. Refute it at one input. -/
def swapPricesWrong : ChangeSpec := { name := "swapPrices", fn := fun _ => fun
  | [d1, d2] => { results := [.lit (.bool false)], args := [d1, d2] }
  | _ => none }
def SwapPricesWrongFalsely : Prop := swapPricesRow.holds Try.pinned (OpenSpec.ofChange swapPricesWrong)

/-- 'peaveylaw08.SwapCircles': WHATEVER THE INPUT: true; the input reads as it did. -/
def swapCirclesSpec : ChangeSpec := { name := "swapCircles", fn := fun _ => fun
  | [d1, d2] => { results := [.lit (.bool true)], args := [d1, d2] }
  | _ => none }
def swapCirclesRow : OpenClaim := { program := "ytgaijhpekajflaa", sum := "6a22ead3eb96ff3b6a308366f692dea686bc69437663f7330ea096ff0fef0c37", func := "peavey/peaveylaw08.SwapCircles", spec := "swapCircles", unfollowed := true, recurses := true, plainKeys := false, apart := false }
def SwapCirclesSaid : Prop := swapCirclesRow.holds Try.pinned (OpenSpec.ofChange swapCirclesSpec)

/-- ITS FALSE NEIGHBOUR: 'it returns false'. Refute it at one input. -/
def swapCirclesWrong : ChangeSpec := { name := "swapCircles", fn := fun _ => fun
  | [d1, d2] => { results := [.lit (.bool false)], args := [d1, d2] }
  | _ => none }
def SwapCirclesWrongFalsely : Prop := swapCirclesRow.holds Try.pinned (OpenSpec.ofChange swapCirclesWrong)

/-- 'peaveylaw08.SwapProved': WHATEVER THE INPUT: true; the input reads as it did. -/
def swapProvedSpec : ChangeSpec := { name := "swapProved", fn := fun _ => fun
  | [d1, d2, d3] => { results := [.lit (.bool true)], args := [d1, d2, d3] }
  | _ => none }
def swapProvedRow : OpenClaim := { program := "ytgaijhpekajflaa", sum := "6a22ead3eb96ff3b6a308366f692dea686bc69437663f7330ea096ff0fef0c37", func := "peavey/peaveylaw08.SwapProved", spec := "swapProved", unfollowed := true, recurses := true, plainKeys := false, apart := false }
def SwapProvedSaid : Prop := swapProvedRow.holds Try.pinned (OpenSpec.ofChange swapProvedSpec)

/-- ITS FALSE NEIGHBOUR: 'it returns false'. Refute it at one input. -/
def swapProvedWrong : ChangeSpec := { name := "swapProved", fn := fun _ => fun
  | [d1, d2, d3] => { results := [.lit (.bool false)], args := [d1, d2, d3] }
  | _ => none }
def SwapProvedWrongFalsely : Prop := swapProvedRow.holds Try.pinned (OpenSpec.ofChange swapProvedWrong)

/-- 'peaveylaw08.SwapFewest': WHATEVER THE INPUT: true; the input reads as it did. -/
def swapFewestSpec : ChangeSpec := { name := "swapFewest", fn := fun _ => fun
  | [d1, d2] => { results := [.lit (.bool true)], args := [d1, d2] }
  | _ => none }
def swapFewestRow : OpenClaim := { program := "ytgaijhpekajflaa", sum := "6a22ead3eb96ff3b6a308366f692dea686bc69437663f7330ea096ff0fef0c37", func := "peavey/peaveylaw08.SwapFewest", spec := "swapFewest", unfollowed := true, recurses := true, plainKeys := false, apart := false }
def SwapFewestSaid : Prop := swapFewestRow.holds Try.pinned (OpenSpec.ofChange swapFewestSpec)

/-- ITS FALSE NEIGHBOUR: 'it returns false'. Refute it at one input. -/
def swapFewestWrong : ChangeSpec := { name := "swapFewest", fn := fun _ => fun
  | [d1, d2] => { results := [.lit (.bool false)], args := [d1, d2] }
  | _ => none }
def SwapFewestWrongFalsely : Prop := swapFewestRow.holds Try.pinned (OpenSpec.ofChange swapFewestWrong)

/-- 'peaveylaw08.SwapChained': WHATEVER THE INPUT: true; the input reads as it did. -/
def swapChainedSpec : ChangeSpec := { name := "swapChained", fn := fun _ => fun
  | [d1, d2] => { results := [.lit (.bool true)], args := [d1, d2] }
  | _ => none }
def swapChainedRow : OpenClaim := { program := "ytgaijhpekajflaa", sum := "6a22ead3eb96ff3b6a308366f692dea686bc69437663f7330ea096ff0fef0c37", func := "peavey/peaveylaw08.SwapChained", spec := "swapChained", unfollowed := true, recurses := true, plainKeys := false, apart := false }
def SwapChainedSaid : Prop := swapChainedRow.holds Try.pinned (OpenSpec.ofChange swapChainedSpec)

/-- ITS FALSE NEIGHBOUR: 'it returns false'. Refute it at one input. -/
def swapChainedWrong : ChangeSpec := { name := "swapChained", fn := fun _ => fun
  | [d1, d2] => { results := [.lit (.bool false)], args := [d1, d2] }
  | _ => none }
def SwapChainedWrongFalsely : Prop := swapChainedRow.holds Try.pinned (OpenSpec.ofChange swapChainedWrong)

/-- 'peaveylaw08.SwapJoined': WHATEVER THE INPUT: true; the input reads as it did. -/
def swapJoinedSpec : ChangeSpec := { name := "swapJoined", fn := fun _ => fun
  | [d1, d2, d3, d4, d5] => { results := [.lit (.bool true)], args := [d1, d2, d3, d4, d5] }
  | _ => none }
def swapJoinedRow : OpenClaim := { program := "ytgaijhpekajflaa", sum := "6a22ead3eb96ff3b6a308366f692dea686bc69437663f7330ea096ff0fef0c37", func := "peavey/peaveylaw08.SwapJoined", spec := "swapJoined", unfollowed := true, recurses := true, plainKeys := false, apart := false }
def SwapJoinedSaid : Prop := swapJoinedRow.holds Try.pinned (OpenSpec.ofChange swapJoinedSpec)

/-- ITS FALSE NEIGHBOUR: 'it returns false'. Refute it at one input. -/
def swapJoinedWrong : ChangeSpec := { name := "swapJoined", fn := fun _ => fun
  | [d1, d2, d3, d4, d5] => { results := [.lit (.bool false)], args := [d1, d2, d3, d4, d5] }
  | _ => none }
def SwapJoinedWrongFalsely : Prop := swapJoinedRow.holds Try.pinned (OpenSpec.ofChange swapJoinedWrong)

/-- 'peaveylaw08.SwapApart': WHATEVER THE INPUT: true; the input reads as it did. -/
def swapApartSpec : ChangeSpec := { name := "swapApart", fn := fun _ => fun
  | [d1, d2, d3] => { results := [.lit (.bool true)], args := [d1, d2, d3] }
  | _ => none }
def swapApartRow : OpenClaim := { program := "ytgaijhpekajflaa", sum := "6a22ead3eb96ff3b6a308366f692dea686bc69437663f7330ea096ff0fef0c37", func := "peavey/peaveylaw08.SwapApart", spec := "swapApart", unfollowed := true, recurses := true, plainKeys := false, apart := false }
def SwapApartSaid : Prop := swapApartRow.holds Try.pinned (OpenSpec.ofChange swapApartSpec)

/-- ITS FALSE NEIGHBOUR: 'it returns false'. Refute it at one input. -/
def swapApartWrong : ChangeSpec := { name := "swapApart", fn := fun _ => fun
  | [d1, d2, d3] => { results := [.lit (.bool false)], args := [d1, d2, d3] }
  | _ => none }
def SwapApartWrongFalsely : Prop := swapApartRow.holds Try.pinned (OpenSpec.ofChange swapApartWrong)

/-- 'peaveylaw08.SwapScaled': WHATEVER THE INPUT: true; the input reads as it did. -/
def swapScaledSpec : ChangeSpec := { name := "swapScaled", fn := fun _ => fun
  | [d1, d2] => { results := [.lit (.bool true)], args := [d1, d2] }
  | _ => none }
def swapScaledRow : OpenClaim := { program := "ytgaijhpekajflaa", sum := "6a22ead3eb96ff3b6a308366f692dea686bc69437663f7330ea096ff0fef0c37", func := "peavey/peaveylaw08.SwapScaled", spec := "swapScaled", unfollowed := true, recurses := true, plainKeys := false, apart := false }
def SwapScaledSaid : Prop := swapScaledRow.holds Try.pinned (OpenSpec.ofChange swapScaledSpec)

/-- ITS FALSE NEIGHBOUR: 'it returns false'. Refute it at one input. -/
def swapScaledWrong : ChangeSpec := { name := "swapScaled", fn := fun _ => fun
  | [d1, d2] => { results := [.lit (.bool false)], args := [d1, d2] }
  | _ => none }
def SwapScaledWrongFalsely : Prop := swapScaledRow.holds Try.pinned (OpenSpec.ofChange swapScaledWrong)

/-- 'peaveylaw08.SwapNamed': WHATEVER THE INPUT: true; the input reads as it did. -/
def swapNamedSpec : ChangeSpec := { name := "swapNamed", fn := fun _ => fun
  | [d1, d2] => { results := [.lit (.bool true)], args := [d1, d2] }
  | _ => none }
def swapNamedRow : OpenClaim := { program := "ytgaijhpekajflaa", sum := "6a22ead3eb96ff3b6a308366f692dea686bc69437663f7330ea096ff0fef0c37", func := "peavey/peaveylaw08.SwapNamed", spec := "swapNamed", unfollowed := true, recurses := true, plainKeys := false, apart := false }
def SwapNamedSaid : Prop := swapNamedRow.holds Try.pinned (OpenSpec.ofChange swapNamedSpec)

/-- ITS FALSE NEIGHBOUR: 'it returns false'. Refute it at one input. -/
def swapNamedWrong : ChangeSpec := { name := "swapNamed", fn := fun _ => fun
  | [d1, d2] => { results := [.lit (.bool false)], args := [d1, d2] }
  | _ => none }
def SwapNamedWrongFalsely : Prop := swapNamedRow.holds Try.pinned (OpenSpec.ofChange swapNamedWrong)

/-- 'peaveylaw08.SwapPlain': WHATEVER THE INPUT: true; the input reads as it did. -/
def swapPlainSpec : ChangeSpec := { name := "swapPlain", fn := fun _ => fun
  | [d] => { results := [.lit (.bool true)], args := [d] }
  | _ => none }
def swapPlainRow : OpenClaim := { program := "ytgaijhpekajflaa", sum := "6a22ead3eb96ff3b6a308366f692dea686bc69437663f7330ea096ff0fef0c37", func := "peavey/peaveylaw08.SwapPlain", spec := "swapPlain", unfollowed := true, recurses := true, plainKeys := false, apart := false }
def SwapPlainSaid : Prop := swapPlainRow.holds Try.pinned (OpenSpec.ofChange swapPlainSpec)

/-- ITS FALSE NEIGHBOUR: 'it returns false'. Refute it at one input. -/
def swapPlainWrong : ChangeSpec := { name := "swapPlain", fn := fun _ => fun
  | [d] => { results := [.lit (.bool false)], args := [d] }
  | _ => none }
def SwapPlainWrongFalsely : Prop := swapPlainRow.holds Try.pinned (OpenSpec.ofChange swapPlainWrong)

/-- 'peaveylaw08.SwapKnown': WHATEVER THE INPUT: true; the input reads as it did. -/
def swapKnownSpec : ChangeSpec := { name := "swapKnown", fn := fun _ => fun
  | [] => { results := [.lit (.bool true)], args := [] }
  | _ => none }
def swapKnownRow : OpenClaim := { program := "ytgaijhpekajflaa", sum := "6a22ead3eb96ff3b6a308366f692dea686bc69437663f7330ea096ff0fef0c37", func := "peavey/peaveylaw08.SwapKnown", spec := "swapKnown", unfollowed := true, recurses := true, plainKeys := false, apart := false }
def SwapKnownSaid : Prop := swapKnownRow.holds Try.pinned (OpenSpec.ofChange swapKnownSpec)

/-- ITS FALSE NEIGHBOUR: 'it returns false'. Refute it at one input. -/
def swapKnownWrong : ChangeSpec := { name := "swapKnown", fn := fun _ => fun
  | [] => { results := [.lit (.bool false)], args := [] }
  | _ => none }
def SwapKnownWrongFalsely : Prop := swapKnownRow.holds Try.pinned (OpenSpec.ofChange swapKnownWrong)

/- THE SECOND FORM. 'bulk': how many values and letters a reading holds, each counted each time it is reached (what is shared counts as often as it is met; a slice's spare places count too). A statement '..UptoSaid' is the law's where the arguments, and the package variables that the reading takes, are together of bulk at most 1048576: NARROWER than '..Said'. Prove '..Said' where nothing that the law and all that it calls make is longer than what came in: it says more and counts as full. Else prove '..UptoSaid'. A law counts once. -/
mutual
def uptoBulk {H : Type} : DataW H → Nat
  | .lit (.string bytes) => bytes.length + 1
  | .lit _ => 1
  | .nil => 1
  | .ptr d => uptoBulk d + 1
  | .slice elems spare => uptoBulkAll elems + uptoBulkAll spare + 1
  | .agg parts => uptoBulkAll parts + 1
  | .iface _ d => uptoBulk d + 1
  | .map entries => uptoBulkEntries entries + 1
  | .held _ => 1
def uptoBulkAll {H : Type} : List (DataW H) → Nat
  | [] => 0
  | d :: r => uptoBulk d + uptoBulkAll r
def uptoBulkEntries {H : Type} : List (Lit × DataW H) → Nat
  | [] => 0
  | x :: r => uptoBulkEntry x + uptoBulkEntries r
def uptoBulkEntry {H : Type} : Lit × DataW H → Nat
  | (.string bytes, d) => bytes.length + uptoBulk d + 1
  | (_, d) => uptoBulk d + 1
 end
def uptoSmall : (H : Type) → List (DataW H) → Bool := fun _ ds => decide (uptoBulkAll ds ≤ 1048576)
def OpenSpec.upto (s : _root_.Go.ChangeSpec) : _root_.Go.OpenSpec := { _root_.Go.OpenSpec.ofChange s with cond := some uptoSmall }

/-- 'peaveylaw08.SwapBooks', WHERE WHAT IT READS IS OF BULK AT MOST 1048576: true; the input reads as it did. -/
def swapBooksUptoRow : OpenClaim := { program := "ytgaijhpekajflaa", sum := "6a22ead3eb96ff3b6a308366f692dea686bc69437663f7330ea096ff0fef0c37", func := "peavey/peaveylaw08.SwapBooks", spec := "swapBooks", unfollowed := true, recurses := true, plainKeys := false, apart := false, narrowed := true }
def SwapBooksUptoSaid : Prop := swapBooksUptoRow.holds Try.pinned (OpenSpec.upto swapBooksSpec)

/-- 'peaveylaw08.SwapDrafts', WHERE WHAT IT READS IS OF BULK AT MOST 1048576: true; the input reads as it did. -/
def swapDraftsUptoRow : OpenClaim := { program := "ytgaijhpekajflaa", sum := "6a22ead3eb96ff3b6a308366f692dea686bc69437663f7330ea096ff0fef0c37", func := "peavey/peaveylaw08.SwapDrafts", spec := "swapDrafts", unfollowed := true, recurses := true, plainKeys := false, apart := false, narrowed := true }
def SwapDraftsUptoSaid : Prop := swapDraftsUptoRow.holds Try.pinned (OpenSpec.upto swapDraftsSpec)

/-- 'peaveylaw08.SwapGroups', WHERE WHAT IT READS IS OF BULK AT MOST 1048576: true; the input reads as it did. -/
def swapGroupsUptoRow : OpenClaim := { program := "ytgaijhpekajflaa", sum := "6a22ead3eb96ff3b6a308366f692dea686bc69437663f7330ea096ff0fef0c37", func := "peavey/peaveylaw08.SwapGroups", spec := "swapGroups", unfollowed := true, recurses := true, plainKeys := false, apart := false, narrowed := true }
def SwapGroupsUptoSaid : Prop := swapGroupsUptoRow.holds Try.pinned (OpenSpec.upto swapGroupsSpec)

/-- 'peaveylaw08.SwapPrices', WHERE WHAT IT READS IS OF BULK AT MOST 1048576: true; the input reads as it did. -/
def swapPricesUptoRow : OpenClaim := { program := "ytgaijhpekajflaa", sum := "6a22ead3eb96ff3b6a308366f692dea686bc69437663f7330ea096ff0fef0c37", func := "peavey/peaveylaw08.SwapPrices", spec := "swapPrices", unfollowed := true, recurses := true, plainKeys := false, apart := false, narrowed := true }
def SwapPricesUptoSaid : Prop := swapPricesUptoRow.holds Try.pinned (OpenSpec.upto swapPricesSpec)

/-- 'peaveylaw08.SwapCircles', WHERE WHAT IT READS IS OF BULK AT MOST 1048576: true; the input reads as it did. -/
def swapCirclesUptoRow : OpenClaim := { program := "ytgaijhpekajflaa", sum := "6a22ead3eb96ff3b6a308366f692dea686bc69437663f7330ea096ff0fef0c37", func := "peavey/peaveylaw08.SwapCircles", spec := "swapCircles", unfollowed := true, recurses := true, plainKeys := false, apart := false, narrowed := true }
def SwapCirclesUptoSaid : Prop := swapCirclesUptoRow.holds Try.pinned (OpenSpec.upto swapCirclesSpec)

/-- 'peaveylaw08.SwapProved', WHERE WHAT IT READS IS OF BULK AT MOST 1048576: true; the input reads as it did. -/
def swapProvedUptoRow : OpenClaim := { program := "ytgaijhpekajflaa", sum := "6a22ead3eb96ff3b6a308366f692dea686bc69437663f7330ea096ff0fef0c37", func := "peavey/peaveylaw08.SwapProved", spec := "swapProved", unfollowed := true, recurses := true, plainKeys := false, apart := false, narrowed := true }
def SwapProvedUptoSaid : Prop := swapProvedUptoRow.holds Try.pinned (OpenSpec.upto swapProvedSpec)

/-- 'peaveylaw08.SwapFewest', WHERE WHAT IT READS IS OF BULK AT MOST 1048576: true; the input reads as it did. -/
def swapFewestUptoRow : OpenClaim := { program := "ytgaijhpekajflaa", sum := "6a22ead3eb96ff3b6a308366f692dea686bc69437663f7330ea096ff0fef0c37", func := "peavey/peaveylaw08.SwapFewest", spec := "swapFewest", unfollowed := true, recurses := true, plainKeys := false, apart := false, narrowed := true }
def SwapFewestUptoSaid : Prop := swapFewestUptoRow.holds Try.pinned (OpenSpec.upto swapFewestSpec)

/-- 'peaveylaw08.SwapChained', WHERE WHAT IT READS IS OF BULK AT MOST 1048576: true; the input reads as it did. -/
def swapChainedUptoRow : OpenClaim := { program := "ytgaijhpekajflaa", sum := "6a22ead3eb96ff3b6a308366f692dea686bc69437663f7330ea096ff0fef0c37", func := "peavey/peaveylaw08.SwapChained", spec := "swapChained", unfollowed := true, recurses := true, plainKeys := false, apart := false, narrowed := true }
def SwapChainedUptoSaid : Prop := swapChainedUptoRow.holds Try.pinned (OpenSpec.upto swapChainedSpec)

/-- 'peaveylaw08.SwapJoined', WHERE WHAT IT READS IS OF BULK AT MOST 1048576: true; the input reads as it did. -/
def swapJoinedUptoRow : OpenClaim := { program := "ytgaijhpekajflaa", sum := "6a22ead3eb96ff3b6a308366f692dea686bc69437663f7330ea096ff0fef0c37", func := "peavey/peaveylaw08.SwapJoined", spec := "swapJoined", unfollowed := true, recurses := true, plainKeys := false, apart := false, narrowed := true }
def SwapJoinedUptoSaid : Prop := swapJoinedUptoRow.holds Try.pinned (OpenSpec.upto swapJoinedSpec)

/-- 'peaveylaw08.SwapApart', WHERE WHAT IT READS IS OF BULK AT MOST 1048576: true; the input reads as it did. -/
def swapApartUptoRow : OpenClaim := { program := "ytgaijhpekajflaa", sum := "6a22ead3eb96ff3b6a308366f692dea686bc69437663f7330ea096ff0fef0c37", func := "peavey/peaveylaw08.SwapApart", spec := "swapApart", unfollowed := true, recurses := true, plainKeys := false, apart := false, narrowed := true }
def SwapApartUptoSaid : Prop := swapApartUptoRow.holds Try.pinned (OpenSpec.upto swapApartSpec)

/-- 'peaveylaw08.SwapScaled', WHERE WHAT IT READS IS OF BULK AT MOST 1048576: true; the input reads as it did. -/
def swapScaledUptoRow : OpenClaim := { program := "ytgaijhpekajflaa", sum := "6a22ead3eb96ff3b6a308366f692dea686bc69437663f7330ea096ff0fef0c37", func := "peavey/peaveylaw08.SwapScaled", spec := "swapScaled", unfollowed := true, recurses := true, plainKeys := false, apart := false, narrowed := true }
def SwapScaledUptoSaid : Prop := swapScaledUptoRow.holds Try.pinned (OpenSpec.upto swapScaledSpec)

/-- 'peaveylaw08.SwapNamed', WHERE WHAT IT READS IS OF BULK AT MOST 1048576: true; the input reads as it did. -/
def swapNamedUptoRow : OpenClaim := { program := "ytgaijhpekajflaa", sum := "6a22ead3eb96ff3b6a308366f692dea686bc69437663f7330ea096ff0fef0c37", func := "peavey/peaveylaw08.SwapNamed", spec := "swapNamed", unfollowed := true, recurses := true, plainKeys := false, apart := false, narrowed := true }
def SwapNamedUptoSaid : Prop := swapNamedUptoRow.holds Try.pinned (OpenSpec.upto swapNamedSpec)

/-- 'peaveylaw08.SwapPlain', WHERE WHAT IT READS IS OF BULK AT MOST 1048576: true; the input reads as it did. -/
def swapPlainUptoRow : OpenClaim := { program := "ytgaijhpekajflaa", sum := "6a22ead3eb96ff3b6a308366f692dea686bc69437663f7330ea096ff0fef0c37", func := "peavey/peaveylaw08.SwapPlain", spec := "swapPlain", unfollowed := true, recurses := true, plainKeys := false, apart := false, narrowed := true }
def SwapPlainUptoSaid : Prop := swapPlainUptoRow.holds Try.pinned (OpenSpec.upto swapPlainSpec)

/-- 'peaveylaw08.SwapKnown', WHERE WHAT IT READS IS OF BULK AT MOST 1048576: true; the input reads as it did. -/
def swapKnownUptoRow : OpenClaim := { program := "ytgaijhpekajflaa", sum := "6a22ead3eb96ff3b6a308366f692dea686bc69437663f7330ea096ff0fef0c37", func := "peavey/peaveylaw08.SwapKnown", spec := "swapKnown", unfollowed := true, recurses := true, plainKeys := false, apart := false, narrowed := true }
def SwapKnownUptoSaid : Prop := swapKnownUptoRow.holds Try.pinned (OpenSpec.upto swapKnownSpec)

end Rows
end Go.Proofs.Ytgaijhpekajflaa
