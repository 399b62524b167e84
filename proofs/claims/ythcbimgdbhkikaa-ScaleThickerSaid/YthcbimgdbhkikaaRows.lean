/-
  No cell of these rows narrows 'for every input' (looked for: loops, veiled, ifaces, maps, wideKeys, modest, calm, conditions, laid).
  DERIVED. THE GIVEN ROWS OF THIS SEAT. 13 by the template 'for every input the law returns true; each argument reads behind the call as it read before'; 0 by the template 'total and deterministic' (their statements: YthcbimgdbhkikaaTotals.lean).
  GIVEN WITH THE SEED: the statements are not yours to turn. If you find one false, say at which input.
  Laid BY PROGRAM, IN A SANDBOX (cutbox-rows.mjs): the forced cells as the released guide's own fill.sh prints them over the translation 311f35aba7249264… (all of the seat's roots in one cut). By AI agents, Wed Nov 11 2026. No macro, syntax, notation, axiom, sorry.
-/
import Derived.Test.YthcbimgdbhkikaaChecked
import GoSem.Claim
import GoSem.ClaimJoined
import GoSem.ClaimMapViews
import Derived.JoinedTies
import Derived.KernelRfl
namespace Go.Proofs.Ythcbimgdbhkikaa
/- THE CELL 'sum', in the pinned program and in every row, IS THE sha256 OF THE DUMP (.gsa) THAT YthcbimgdbhkikaaProg.lean LOADS. Nothing in Lean hashes anything: it is a label: what it is worth is what the hold of that sum in a sandbox is worth. -/
noncomputable def Try.pinned : Pinned := { name := "ythcbimgdbhkikaa", sum := "311f35aba7249264dd1081aec8f1a54f0f2e583eeac2bf3dcba50b0e8b097272", checked := Try.checked }
namespace Rows
def none {H : Type} : Left H := { results := [], args := [] }

/-- 'peaveylaw02.ScaleStems': WHATEVER THE INPUT: true; the input reads as it did. -/
def scaleStemsSpec : ChangeSpec := { name := "scaleStems", fn := fun _ => fun
  | [d1, d2, d3] => { results := [.lit (.bool true)], args := [d1, d2, d3] }
  | _ => none }
def scaleStemsRow : OpenClaim := { program := "ythcbimgdbhkikaa", sum := "311f35aba7249264dd1081aec8f1a54f0f2e583eeac2bf3dcba50b0e8b097272", func := "peavey/peaveylaw02.ScaleStems", spec := "scaleStems", unfollowed := true, recurses := true, plainKeys := false, apart := false }
def ScaleStemsSaid : Prop := scaleStemsRow.holds Try.pinned (OpenSpec.ofChange scaleStemsSpec)

/-- ITS FALSE NEIGHBOUR: 'it returns false'. Refute it at one input. -/
def scaleStemsWrong : ChangeSpec := { name := "scaleStems", fn := fun _ => fun
  | [d1, d2, d3] => { results := [.lit (.bool false)], args := [d1, d2, d3] }
  | _ => none }
def ScaleStemsWrongFalsely : Prop := scaleStemsRow.holds Try.pinned (OpenSpec.ofChange scaleStemsWrong)

/-- 'peaveylaw02.ScaleCuts': WHATEVER THE INPUT: true; the input reads as it did. -/
def scaleCutsSpec : ChangeSpec := { name := "scaleCuts", fn := fun _ => fun
  | [d1, d2, d3] => { results := [.lit (.bool true)], args := [d1, d2, d3] }
  | _ => none }
def scaleCutsRow : OpenClaim := { program := "ythcbimgdbhkikaa", sum := "311f35aba7249264dd1081aec8f1a54f0f2e583eeac2bf3dcba50b0e8b097272", func := "peavey/peaveylaw02.ScaleCuts", spec := "scaleCuts", unfollowed := true, recurses := true, plainKeys := false, apart := false }
def ScaleCutsSaid : Prop := scaleCutsRow.holds Try.pinned (OpenSpec.ofChange scaleCutsSpec)

/-- ITS FALSE NEIGHBOUR: 'it returns false'. Refute it at one input. -/
def scaleCutsWrong : ChangeSpec := { name := "scaleCuts", fn := fun _ => fun
  | [d1, d2, d3] => { results := [.lit (.bool false)], args := [d1, d2, d3] }
  | _ => none }
def ScaleCutsWrongFalsely : Prop := scaleCutsRow.holds Try.pinned (OpenSpec.ofChange scaleCutsWrong)

/-- 'peaveylaw02.ScalePrices': WHATEVER THE INPUT: true; the input reads as it did. -/
def scalePricesSpec : ChangeSpec := { name := "scalePrices", fn := fun _ => fun
  | [d1, d2, d3] => { results := [.lit (.bool true)], args := [d1, d2, d3] }
  | _ => none }
def scalePricesRow : OpenClaim := { program := "ythcbimgdbhkikaa", sum := "311f35aba7249264dd1081aec8f1a54f0f2e583eeac2bf3dcba50b0e8b097272", func := "peavey/peaveylaw02.ScalePrices", spec := "scalePrices", unfollowed := true, recurses := true, plainKeys := false, apart := false }
def ScalePricesSaid : Prop := scalePricesRow.holds Try.pinned (OpenSpec.ofChange scalePricesSpec)

/-- ITS FALSE NEIGHBOUR: 'it returns false'. Refute it at one input. -/
def scalePricesWrong : ChangeSpec := { name := "scalePrices", fn := fun _ => fun
  | [d1, d2, d3] => { results := [.lit (.bool false)], args := [d1, d2, d3] }
  | _ => none }
def ScalePricesWrongFalsely : Prop := scalePricesRow.holds Try.pinned (OpenSpec.ofChange scalePricesWrong)

/-- 'peaveylaw02.ScaleCounts': WHATEVER THE INPUT: true; the input reads as it did. -/
def scaleCountsSpec : ChangeSpec := { name := "scaleCounts", fn := fun _ => fun
  | [d1, d2, d3] => { results := [.lit (.bool true)], args := [d1, d2, d3] }
  | _ => none }
def scaleCountsRow : OpenClaim := { program := "ythcbimgdbhkikaa", sum := "311f35aba7249264dd1081aec8f1a54f0f2e583eeac2bf3dcba50b0e8b097272", func := "peavey/peaveylaw02.ScaleCounts", spec := "scaleCounts", unfollowed := true, recurses := true, plainKeys := false, apart := false }
def ScaleCountsSaid : Prop := scaleCountsRow.holds Try.pinned (OpenSpec.ofChange scaleCountsSpec)

/-- ITS FALSE NEIGHBOUR: 'it returns false'. Refute it at one input. -/
def scaleCountsWrong : ChangeSpec := { name := "scaleCounts", fn := fun _ => fun
  | [d1, d2, d3] => { results := [.lit (.bool false)], args := [d1, d2, d3] }
  | _ => none }
def ScaleCountsWrongFalsely : Prop := scaleCountsRow.holds Try.pinned (OpenSpec.ofChange scaleCountsWrong)

/-- 'peaveylaw02.ScaleBetweens': WHATEVER THE INPUT: true; the input reads as it did. -/
def scaleBetweensSpec : ChangeSpec := { name := "scaleBetweens", fn := fun _ => fun
  | [d1, d2, d3] => { results := [.lit (.bool true)], args := [d1, d2, d3] }
  | _ => none }
def scaleBetweensRow : OpenClaim := { program := "ythcbimgdbhkikaa", sum := "311f35aba7249264dd1081aec8f1a54f0f2e583eeac2bf3dcba50b0e8b097272", func := "peavey/peaveylaw02.ScaleBetweens", spec := "scaleBetweens", unfollowed := true, recurses := true, plainKeys := false, apart := false }
def ScaleBetweensSaid : Prop := scaleBetweensRow.holds Try.pinned (OpenSpec.ofChange scaleBetweensSpec)

/-- ITS FALSE NEIGHBOUR: 'it returns false'. Refute it at one input. -/
def scaleBetweensWrong : ChangeSpec := { name := "scaleBetweens", fn := fun _ => fun
  | [d1, d2, d3] => { results := [.lit (.bool false)], args := [d1, d2, d3] }
  | _ => none }
def ScaleBetweensWrongFalsely : Prop := scaleBetweensRow.holds Try.pinned (OpenSpec.ofChange scaleBetweensWrong)

/-- 'peaveylaw02.ScaleProved': WHATEVER THE INPUT: true; the input reads as it did. -/
def scaleProvedSpec : ChangeSpec := { name := "scaleProved", fn := fun _ => fun
  | [d1, d2, d3, d4] => { results := [.lit (.bool true)], args := [d1, d2, d3, d4] }
  | _ => none }
def scaleProvedRow : OpenClaim := { program := "ythcbimgdbhkikaa", sum := "311f35aba7249264dd1081aec8f1a54f0f2e583eeac2bf3dcba50b0e8b097272", func := "peavey/peaveylaw02.ScaleProved", spec := "scaleProved", unfollowed := true, recurses := true, plainKeys := false, apart := false }
def ScaleProvedSaid : Prop := scaleProvedRow.holds Try.pinned (OpenSpec.ofChange scaleProvedSpec)

/-- ITS FALSE NEIGHBOUR: 'it returns false'. Refute it at one input. -/
def scaleProvedWrong : ChangeSpec := { name := "scaleProved", fn := fun _ => fun
  | [d1, d2, d3, d4] => { results := [.lit (.bool false)], args := [d1, d2, d3, d4] }
  | _ => none }
def ScaleProvedWrongFalsely : Prop := scaleProvedRow.holds Try.pinned (OpenSpec.ofChange scaleProvedWrong)

/-- 'peaveylaw02.ScaleSplit': WHATEVER THE INPUT: true; the input reads as it did. -/
def scaleSplitSpec : ChangeSpec := { name := "scaleSplit", fn := fun _ => fun
  | [d1, d2, d3] => { results := [.lit (.bool true)], args := [d1, d2, d3] }
  | _ => none }
def scaleSplitRow : OpenClaim := { program := "ythcbimgdbhkikaa", sum := "311f35aba7249264dd1081aec8f1a54f0f2e583eeac2bf3dcba50b0e8b097272", func := "peavey/peaveylaw02.ScaleSplit", spec := "scaleSplit", unfollowed := true, recurses := true, plainKeys := false, apart := false }
def ScaleSplitSaid : Prop := scaleSplitRow.holds Try.pinned (OpenSpec.ofChange scaleSplitSpec)

/-- ITS FALSE NEIGHBOUR: 'it returns false'. Refute it at one input. -/
def scaleSplitWrong : ChangeSpec := { name := "scaleSplit", fn := fun _ => fun
  | [d1, d2, d3] => { results := [.lit (.bool false)], args := [d1, d2, d3] }
  | _ => none }
def ScaleSplitWrongFalsely : Prop := scaleSplitRow.holds Try.pinned (OpenSpec.ofChange scaleSplitWrong)

/-- 'peaveylaw02.ScaleThicker': WHATEVER THE INPUT: true; the input reads as it did. -/
def scaleThickerSpec : ChangeSpec := { name := "scaleThicker", fn := fun _ => fun
  | [d1, d2, d3, d4] => { results := [.lit (.bool true)], args := [d1, d2, d3, d4] }
  | _ => none }
def scaleThickerRow : OpenClaim := { program := "ythcbimgdbhkikaa", sum := "311f35aba7249264dd1081aec8f1a54f0f2e583eeac2bf3dcba50b0e8b097272", func := "peavey/peaveylaw02.ScaleThicker", spec := "scaleThicker", unfollowed := true, recurses := true, plainKeys := false, apart := false }
def ScaleThickerSaid : Prop := scaleThickerRow.holds Try.pinned (OpenSpec.ofChange scaleThickerSpec)

/-- ITS FALSE NEIGHBOUR: 'it returns false'. Refute it at one input. -/
def scaleThickerWrong : ChangeSpec := { name := "scaleThicker", fn := fun _ => fun
  | [d1, d2, d3, d4] => { results := [.lit (.bool false)], args := [d1, d2, d3, d4] }
  | _ => none }
def ScaleThickerWrongFalsely : Prop := scaleThickerRow.holds Try.pinned (OpenSpec.ofChange scaleThickerWrong)

/-- 'peaveylaw02.ScaleDearer': WHATEVER THE INPUT: true; the input reads as it did. -/
def scaleDearerSpec : ChangeSpec := { name := "scaleDearer", fn := fun _ => fun
  | [d1, d2, d3, d4, d5, d6, d7] => { results := [.lit (.bool true)], args := [d1, d2, d3, d4, d5, d6, d7] }
  | _ => none }
def scaleDearerRow : OpenClaim := { program := "ythcbimgdbhkikaa", sum := "311f35aba7249264dd1081aec8f1a54f0f2e583eeac2bf3dcba50b0e8b097272", func := "peavey/peaveylaw02.ScaleDearer", spec := "scaleDearer", unfollowed := true, recurses := true, plainKeys := false, apart := false }
def ScaleDearerSaid : Prop := scaleDearerRow.holds Try.pinned (OpenSpec.ofChange scaleDearerSpec)

/-- ITS FALSE NEIGHBOUR: 'it returns false'. Refute it at one input. -/
def scaleDearerWrong : ChangeSpec := { name := "scaleDearer", fn := fun _ => fun
  | [d1, d2, d3, d4, d5, d6, d7] => { results := [.lit (.bool false)], args := [d1, d2, d3, d4, d5, d6, d7] }
  | _ => none }
def ScaleDearerWrongFalsely : Prop := scaleDearerRow.holds Try.pinned (OpenSpec.ofChange scaleDearerWrong)

/-- 'peaveylaw02.ScaleCut': WHATEVER THE INPUT: true; the input reads as it did. -/
def scaleCutSpec : ChangeSpec := { name := "scaleCut", fn := fun _ => fun
  | [d1, d2, d3, d4] => { results := [.lit (.bool true)], args := [d1, d2, d3, d4] }
  | _ => none }
def scaleCutRow : OpenClaim := { program := "ythcbimgdbhkikaa", sum := "311f35aba7249264dd1081aec8f1a54f0f2e583eeac2bf3dcba50b0e8b097272", func := "peavey/peaveylaw02.ScaleCut", spec := "scaleCut", unfollowed := true, recurses := true, plainKeys := false, apart := false }
def ScaleCutSaid : Prop := scaleCutRow.holds Try.pinned (OpenSpec.ofChange scaleCutSpec)

/-- ITS FALSE NEIGHBOUR: 'it returns false'. Refute it at one input. -/
def scaleCutWrong : ChangeSpec := { name := "scaleCut", fn := fun _ => fun
  | [d1, d2, d3, d4] => { results := [.lit (.bool false)], args := [d1, d2, d3, d4] }
  | _ => none }
def ScaleCutWrongFalsely : Prop := scaleCutRow.holds Try.pinned (OpenSpec.ofChange scaleCutWrong)

/-- 'peaveylaw02.ScaleBetween': WHATEVER THE INPUT: true; the input reads as it did. -/
def scaleBetweenSpec : ChangeSpec := { name := "scaleBetween", fn := fun _ => fun
  | [d1, d2, d3, d4] => { results := [.lit (.bool true)], args := [d1, d2, d3, d4] }
  | _ => none }
def scaleBetweenRow : OpenClaim := { program := "ythcbimgdbhkikaa", sum := "311f35aba7249264dd1081aec8f1a54f0f2e583eeac2bf3dcba50b0e8b097272", func := "peavey/peaveylaw02.ScaleBetween", spec := "scaleBetween", unfollowed := true, recurses := true, plainKeys := false, apart := false }
def ScaleBetweenSaid : Prop := scaleBetweenRow.holds Try.pinned (OpenSpec.ofChange scaleBetweenSpec)

/-- ITS FALSE NEIGHBOUR: 'it returns false'. Refute it at one input. -/
def scaleBetweenWrong : ChangeSpec := { name := "scaleBetween", fn := fun _ => fun
  | [d1, d2, d3, d4] => { results := [.lit (.bool false)], args := [d1, d2, d3, d4] }
  | _ => none }
def ScaleBetweenWrongFalsely : Prop := scaleBetweenRow.holds Try.pinned (OpenSpec.ofChange scaleBetweenWrong)

/-- 'peaveylaw02.ScaleWaste': WHATEVER THE INPUT: true; the input reads as it did. -/
def scaleWasteSpec : ChangeSpec := { name := "scaleWaste", fn := fun _ => fun
  | [d1, d2, d3] => { results := [.lit (.bool true)], args := [d1, d2, d3] }
  | _ => none }
def scaleWasteRow : OpenClaim := { program := "ythcbimgdbhkikaa", sum := "311f35aba7249264dd1081aec8f1a54f0f2e583eeac2bf3dcba50b0e8b097272", func := "peavey/peaveylaw02.ScaleWaste", spec := "scaleWaste", unfollowed := true, recurses := true, plainKeys := false, apart := false }
def ScaleWasteSaid : Prop := scaleWasteRow.holds Try.pinned (OpenSpec.ofChange scaleWasteSpec)

/-- ITS FALSE NEIGHBOUR: 'it returns false'. Refute it at one input. -/
def scaleWasteWrong : ChangeSpec := { name := "scaleWaste", fn := fun _ => fun
  | [d1, d2, d3] => { results := [.lit (.bool false)], args := [d1, d2, d3] }
  | _ => none }
def ScaleWasteWrongFalsely : Prop := scaleWasteRow.holds Try.pinned (OpenSpec.ofChange scaleWasteWrong)

/-- 'peaveylaw02.ScaleKnown': WHATEVER THE INPUT: true; the input reads as it did. -/
def scaleKnownSpec : ChangeSpec := { name := "scaleKnown", fn := fun _ => fun
  | [] => { results := [.lit (.bool true)], args := [] }
  | _ => none }
def scaleKnownRow : OpenClaim := { program := "ythcbimgdbhkikaa", sum := "311f35aba7249264dd1081aec8f1a54f0f2e583eeac2bf3dcba50b0e8b097272", func := "peavey/peaveylaw02.ScaleKnown", spec := "scaleKnown", unfollowed := true, recurses := true, plainKeys := false, apart := false }
def ScaleKnownSaid : Prop := scaleKnownRow.holds Try.pinned (OpenSpec.ofChange scaleKnownSpec)

/-- ITS FALSE NEIGHBOUR: 'it returns false'. Refute it at one input. -/
def scaleKnownWrong : ChangeSpec := { name := "scaleKnown", fn := fun _ => fun
  | [] => { results := [.lit (.bool false)], args := [] }
  | _ => none }
def ScaleKnownWrongFalsely : Prop := scaleKnownRow.holds Try.pinned (OpenSpec.ofChange scaleKnownWrong)

/- THE SECOND FORM. 'bulk': how many values and letters a reading holds, each counted each time it is reached (what is shared counts as often as it is met; a slice's spare places count too). A statement '..UptoSaid' is the law's where the arguments, and the package variables that the reading takes, are together of bulk at most 1048576: NARROWER than '..Said'. Prove '..Said' where nothing that the law and all that it calls make is longer than what came in: it says more and counts as full. Else prove '..UptoSaid'. A law counts once. -/
mutual
def uptoBulk {H : Type} : DataW H → Nat
  | .lit (.string bytes) => bytes.length + 1
  | .lit _ => 1
  | .nil => 1
  | .ptr d => uptoBulk d + 1
  | .slice elems spare => uptoBulkAll elems + uptoBulkAll spare + 1
  | .agg parts => uptoBulkAll parts + 1
  | .iface _ d => uptoBulk d + 1
  | .map entries => uptoBulkEntries entries + 1
  | .held _ => 1
def uptoBulkAll {H : Type} : List (DataW H) → Nat
  | [] => 0
  | d :: r => uptoBulk d + uptoBulkAll r
def uptoBulkEntries {H : Type} : List (Lit × DataW H) → Nat
  | [] => 0
  | x :: r => uptoBulkEntry x + uptoBulkEntries r
def uptoBulkEntry {H : Type} : Lit × DataW H → Nat
  | (.string bytes, d) => bytes.length + uptoBulk d + 1
  | (_, d) => uptoBulk d + 1
 end
def uptoSmall : (H : Type) → List (DataW H) → Bool := fun _ ds => decide (uptoBulkAll ds ≤ 1048576)
def OpenSpec.upto (s : _root_.Go.ChangeSpec) : _root_.Go.OpenSpec := { _root_.Go.OpenSpec.ofChange s with cond := some uptoSmall }

/-- 'peaveylaw02.ScaleStems', WHERE WHAT IT READS IS OF BULK AT MOST 1048576: true; the input reads as it did. -/
def scaleStemsUptoRow : OpenClaim := { program := "ythcbimgdbhkikaa", sum := "311f35aba7249264dd1081aec8f1a54f0f2e583eeac2bf3dcba50b0e8b097272", func := "peavey/peaveylaw02.ScaleStems", spec := "scaleStems", unfollowed := true, recurses := true, plainKeys := false, apart := false, narrowed := true }
def ScaleStemsUptoSaid : Prop := scaleStemsUptoRow.holds Try.pinned (OpenSpec.upto scaleStemsSpec)

/-- 'peaveylaw02.ScaleCuts', WHERE WHAT IT READS IS OF BULK AT MOST 1048576: true; the input reads as it did. -/
def scaleCutsUptoRow : OpenClaim := { program := "ythcbimgdbhkikaa", sum := "311f35aba7249264dd1081aec8f1a54f0f2e583eeac2bf3dcba50b0e8b097272", func := "peavey/peaveylaw02.ScaleCuts", spec := "scaleCuts", unfollowed := true, recurses := true, plainKeys := false, apart := false, narrowed := true }
def ScaleCutsUptoSaid : Prop := scaleCutsUptoRow.holds Try.pinned (OpenSpec.upto scaleCutsSpec)

/-- 'peaveylaw02.ScalePrices', WHERE WHAT IT READS IS OF BULK AT MOST 1048576: true; the input reads as it did. -/
def scalePricesUptoRow : OpenClaim := { program := "ythcbimgdbhkikaa", sum := "311f35aba7249264dd1081aec8f1a54f0f2e583eeac2bf3dcba50b0e8b097272", func := "peavey/peaveylaw02.ScalePrices", spec := "scalePrices", unfollowed := true, recurses := true, plainKeys := false, apart := false, narrowed := true }
def ScalePricesUptoSaid : Prop := scalePricesUptoRow.holds Try.pinned (OpenSpec.upto scalePricesSpec)

/-- 'peaveylaw02.ScaleCounts', WHERE WHAT IT READS IS OF BULK AT MOST 1048576: true; the input reads as it did. -/
def scaleCountsUptoRow : OpenClaim := { program := "ythcbimgdbhkikaa", sum := "311f35aba7249264dd1081aec8f1a54f0f2e583eeac2bf3dcba50b0e8b097272", func := "peavey/peaveylaw02.ScaleCounts", spec := "scaleCounts", unfollowed := true, recurses := true, plainKeys := false, apart := false, narrowed := true }
def ScaleCountsUptoSaid : Prop := scaleCountsUptoRow.holds Try.pinned (OpenSpec.upto scaleCountsSpec)

/-- 'peaveylaw02.ScaleBetweens', WHERE WHAT IT READS IS OF BULK AT MOST 1048576: true; the input reads as it did. -/
def scaleBetweensUptoRow : OpenClaim := { program := "ythcbimgdbhkikaa", sum := "311f35aba7249264dd1081aec8f1a54f0f2e583eeac2bf3dcba50b0e8b097272", func := "peavey/peaveylaw02.ScaleBetweens", spec := "scaleBetweens", unfollowed := true, recurses := true, plainKeys := false, apart := false, narrowed := true }
def ScaleBetweensUptoSaid : Prop := scaleBetweensUptoRow.holds Try.pinned (OpenSpec.upto scaleBetweensSpec)

/-- 'peaveylaw02.ScaleProved', WHERE WHAT IT READS IS OF BULK AT MOST 1048576: true; the input reads as it did. -/
def scaleProvedUptoRow : OpenClaim := { program := "ythcbimgdbhkikaa", sum := "311f35aba7249264dd1081aec8f1a54f0f2e583eeac2bf3dcba50b0e8b097272", func := "peavey/peaveylaw02.ScaleProved", spec := "scaleProved", unfollowed := true, recurses := true, plainKeys := false, apart := false, narrowed := true }
def ScaleProvedUptoSaid : Prop := scaleProvedUptoRow.holds Try.pinned (OpenSpec.upto scaleProvedSpec)

/-- 'peaveylaw02.ScaleSplit', WHERE WHAT IT READS IS OF BULK AT MOST 1048576: true; the input reads as it did. -/
def scaleSplitUptoRow : OpenClaim := { program := "ythcbimgdbhkikaa", sum := "311f35aba7249264dd1081aec8f1a54f0f2e583eeac2bf3dcba50b0e8b097272", func := "peavey/peaveylaw02.ScaleSplit", spec := "scaleSplit", unfollowed := true, recurses := true, plainKeys := false, apart := false, narrowed := true }
def ScaleSplitUptoSaid : Prop := scaleSplitUptoRow.holds Try.pinned (OpenSpec.upto scaleSplitSpec)

/-- 'peaveylaw02.ScaleThicker', WHERE WHAT IT READS IS OF BULK AT MOST 1048576: true; the input reads as it did. -/
def scaleThickerUptoRow : OpenClaim := { program := "ythcbimgdbhkikaa", sum := "311f35aba7249264dd1081aec8f1a54f0f2e583eeac2bf3dcba50b0e8b097272", func := "peavey/peaveylaw02.ScaleThicker", spec := "scaleThicker", unfollowed := true, recurses := true, plainKeys := false, apart := false, narrowed := true }
def ScaleThickerUptoSaid : Prop := scaleThickerUptoRow.holds Try.pinned (OpenSpec.upto scaleThickerSpec)

/-- 'peaveylaw02.ScaleDearer', WHERE WHAT IT READS IS OF BULK AT MOST 1048576: true; the input reads as it did. -/
def scaleDearerUptoRow : OpenClaim := { program := "ythcbimgdbhkikaa", sum := "311f35aba7249264dd1081aec8f1a54f0f2e583eeac2bf3dcba50b0e8b097272", func := "peavey/peaveylaw02.ScaleDearer", spec := "scaleDearer", unfollowed := true, recurses := true, plainKeys := false, apart := false, narrowed := true }
def ScaleDearerUptoSaid : Prop := scaleDearerUptoRow.holds Try.pinned (OpenSpec.upto scaleDearerSpec)

/-- 'peaveylaw02.ScaleCut', WHERE WHAT IT READS IS OF BULK AT MOST 1048576: true; the input reads as it did. -/
def scaleCutUptoRow : OpenClaim := { program := "ythcbimgdbhkikaa", sum := "311f35aba7249264dd1081aec8f1a54f0f2e583eeac2bf3dcba50b0e8b097272", func := "peavey/peaveylaw02.ScaleCut", spec := "scaleCut", unfollowed := true, recurses := true, plainKeys := false, apart := false, narrowed := true }
def ScaleCutUptoSaid : Prop := scaleCutUptoRow.holds Try.pinned (OpenSpec.upto scaleCutSpec)

/-- 'peaveylaw02.ScaleBetween', WHERE WHAT IT READS IS OF BULK AT MOST 1048576: true; the input reads as it did. -/
def scaleBetweenUptoRow : OpenClaim := { program := "ythcbimgdbhkikaa", sum := "311f35aba7249264dd1081aec8f1a54f0f2e583eeac2bf3dcba50b0e8b097272", func := "peavey/peaveylaw02.ScaleBetween", spec := "scaleBetween", unfollowed := true, recurses := true, plainKeys := false, apart := false, narrowed := true }
def ScaleBetweenUptoSaid : Prop := scaleBetweenUptoRow.holds Try.pinned (OpenSpec.upto scaleBetweenSpec)

/-- 'peaveylaw02.ScaleWaste', WHERE WHAT IT READS IS OF BULK AT MOST 1048576: true; the input reads as it did. -/
def scaleWasteUptoRow : OpenClaim := { program := "ythcbimgdbhkikaa", sum := "311f35aba7249264dd1081aec8f1a54f0f2e583eeac2bf3dcba50b0e8b097272", func := "peavey/peaveylaw02.ScaleWaste", spec := "scaleWaste", unfollowed := true, recurses := true, plainKeys := false, apart := false, narrowed := true }
def ScaleWasteUptoSaid : Prop := scaleWasteUptoRow.holds Try.pinned (OpenSpec.upto scaleWasteSpec)

/-- 'peaveylaw02.ScaleKnown', WHERE WHAT IT READS IS OF BULK AT MOST 1048576: true; the input reads as it did. -/
def scaleKnownUptoRow : OpenClaim := { program := "ythcbimgdbhkikaa", sum := "311f35aba7249264dd1081aec8f1a54f0f2e583eeac2bf3dcba50b0e8b097272", func := "peavey/peaveylaw02.ScaleKnown", spec := "scaleKnown", unfollowed := true, recurses := true, plainKeys := false, apart := false, narrowed := true }
def ScaleKnownUptoSaid : Prop := scaleKnownUptoRow.holds Try.pinned (OpenSpec.upto scaleKnownSpec)

end Rows
end Go.Proofs.Ythcbimgdbhkikaa
