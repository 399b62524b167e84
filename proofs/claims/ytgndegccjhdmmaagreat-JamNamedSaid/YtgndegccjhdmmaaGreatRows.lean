/-
  No cell of these rows narrows 'for every input' (looked for: loops, veiled, ifaces, maps, wideKeys, modest, calm, conditions, laid).
  DERIVED. THE GIVEN ROWS OF THIS SEAT. 14 by the template 'for every input the law returns true; each argument reads behind the call as it read before'; 0 by the template 'total and deterministic' (their statements: YtgndegccjhdmmaaGreatTotals.lean).
  GIVEN WITH THE SEED: the statements are not yours to turn. If you find one false, say at which input.
  Laid BY PROGRAM, IN A SANDBOX (cutbox-rows.mjs): the forced cells as the released guide's own fill.sh prints them over the translation 7d4fffbf7fa7329e… (all of the seat's roots in one cut). By AI agents, Wed Nov 11 2026. No macro, syntax, notation, axiom, sorry.
-/
import Derived.Test.YtgndegccjhdmmaaGreatChecked
import GoSem.Claim
import GoSem.ClaimJoined
import GoSem.ClaimMapViews
import Derived.JoinedTies
import Derived.KernelRfl
namespace Go.Proofs.YtgndegccjhdmmaaGreat
/- THE CELL 'sum', in the pinned program and in every row, IS THE sha256 OF THE DUMP (.gsa) THAT YtgndegccjhdmmaaGreatProg.lean LOADS. Nothing in Lean hashes anything: it is a label: what it is worth is what the hold of that sum in a sandbox is worth. -/
noncomputable def Tryz.pinned : Pinned := { name := "ytgndegccjhdmmaagreat", sum := "7d4fffbf7fa7329ec61dc169af9a3202dcaf7412b427691a06e1fcda13b52bc4", checked := Tryz.checked }
namespace Rows
def none {H : Type} : Left H := { results := [], args := [] }

/-- 'peaveylaw06.JamJams': WHATEVER THE INPUT: true; the input reads as it did. -/
def jamJamsSpec : ChangeSpec := { name := "jamJams", fn := fun _ => fun
  | [d1, d2] => { results := [.lit (.bool true)], args := [d1, d2] }
  | _ => none }
def jamJamsRow : OpenClaim := { program := "ytgndegccjhdmmaagreat", sum := "7d4fffbf7fa7329ec61dc169af9a3202dcaf7412b427691a06e1fcda13b52bc4", func := "peavey/peaveylaw06.JamJams", spec := "jamJams", unfollowed := true, recurses := true, plainKeys := false, apart := false }
def JamJamsSaid : Prop := jamJamsRow.holds Tryz.pinned (OpenSpec.ofChange jamJamsSpec)

/-- ITS FALSE NEIGHBOUR: 'it returns false'. Refute it at one input. -/
def jamJamsWrong : ChangeSpec := { name := "jamJams", fn := fun _ => fun
  | [d1, d2] => { results := [.lit (.bool false)], args := [d1, d2] }
  | _ => none }
def JamJamsWrongFalsely : Prop := jamJamsRow.holds Tryz.pinned (OpenSpec.ofChange jamJamsWrong)

/-- 'peaveylaw06.JamKeys': WHATEVER THE INPUT: true; the input reads as it did. -/
def jamKeysSpec : ChangeSpec := { name := "jamKeys", fn := fun _ => fun
  | [d1, d2] => { results := [.lit (.bool true)], args := [d1, d2] }
  | _ => none }
def jamKeysRow : OpenClaim := { program := "ytgndegccjhdmmaagreat", sum := "7d4fffbf7fa7329ec61dc169af9a3202dcaf7412b427691a06e1fcda13b52bc4", func := "peavey/peaveylaw06.JamKeys", spec := "jamKeys", unfollowed := true, recurses := true, plainKeys := false, apart := false }
def JamKeysSaid : Prop := jamKeysRow.holds Tryz.pinned (OpenSpec.ofChange jamKeysSpec)

/-- ITS FALSE NEIGHBOUR: 'it returns false'. Refute it at one input. -/
def jamKeysWrong : ChangeSpec := { name := "jamKeys", fn := fun _ => fun
  | [d1, d2] => { results := [.lit (.bool false)], args := [d1, d2] }
  | _ => none }
def JamKeysWrongFalsely : Prop := jamKeysRow.holds Tryz.pinned (OpenSpec.ofChange jamKeysWrong)

/-- 'peaveylaw06.JamLocks': WHATEVER THE INPUT: true; the input reads as it did. -/
def jamLocksSpec : ChangeSpec := { name := "jamLocks", fn := fun _ => fun
  | [d1, d2] => { results := [.lit (.bool true)], args := [d1, d2] }
  | _ => none }
def jamLocksRow : OpenClaim := { program := "ytgndegccjhdmmaagreat", sum := "7d4fffbf7fa7329ec61dc169af9a3202dcaf7412b427691a06e1fcda13b52bc4", func := "peavey/peaveylaw06.JamLocks", spec := "jamLocks", unfollowed := true, recurses := true, plainKeys := false, apart := false }
def JamLocksSaid : Prop := jamLocksRow.holds Tryz.pinned (OpenSpec.ofChange jamLocksSpec)

/-- ITS FALSE NEIGHBOUR: 'it returns false'. Refute it at one input. -/
def jamLocksWrong : ChangeSpec := { name := "jamLocks", fn := fun _ => fun
  | [d1, d2] => { results := [.lit (.bool false)], args := [d1, d2] }
  | _ => none }
def JamLocksWrongFalsely : Prop := jamLocksRow.holds Tryz.pinned (OpenSpec.ofChange jamLocksWrong)

/-- 'peaveylaw06.JamAparts': WHATEVER THE INPUT: true; the input reads as it did. -/
def jamApartsSpec : ChangeSpec := { name := "jamAparts", fn := fun _ => fun
  | [d1, d2] => { results := [.lit (.bool true)], args := [d1, d2] }
  | _ => none }
def jamApartsRow : OpenClaim := { program := "ytgndegccjhdmmaagreat", sum := "7d4fffbf7fa7329ec61dc169af9a3202dcaf7412b427691a06e1fcda13b52bc4", func := "peavey/peaveylaw06.JamAparts", spec := "jamAparts", unfollowed := true, recurses := true, plainKeys := false, apart := false }
def JamApartsSaid : Prop := jamApartsRow.holds Tryz.pinned (OpenSpec.ofChange jamApartsSpec)

/-- ITS FALSE NEIGHBOUR: 'it returns false'. Refute it at one input. -/
def jamApartsWrong : ChangeSpec := { name := "jamAparts", fn := fun _ => fun
  | [d1, d2] => { results := [.lit (.bool false)], args := [d1, d2] }
  | _ => none }
def JamApartsWrongFalsely : Prop := jamApartsRow.holds Tryz.pinned (OpenSpec.ofChange jamApartsWrong)

/-- 'peaveylaw06.JamNeeds': WHATEVER THE INPUT: true; the input reads as it did. -/
def jamNeedsSpec : ChangeSpec := { name := "jamNeeds", fn := fun _ => fun
  | [d1, d2] => { results := [.lit (.bool true)], args := [d1, d2] }
  | _ => none }
def jamNeedsRow : OpenClaim := { program := "ytgndegccjhdmmaagreat", sum := "7d4fffbf7fa7329ec61dc169af9a3202dcaf7412b427691a06e1fcda13b52bc4", func := "peavey/peaveylaw06.JamNeeds", spec := "jamNeeds", unfollowed := true, recurses := true, plainKeys := false, apart := false }
def JamNeedsSaid : Prop := jamNeedsRow.holds Tryz.pinned (OpenSpec.ofChange jamNeedsSpec)

/-- ITS FALSE NEIGHBOUR: 'it returns false'. Refute it at one input. -/
def jamNeedsWrong : ChangeSpec := { name := "jamNeeds", fn := fun _ => fun
  | [d1, d2] => { results := [.lit (.bool false)], args := [d1, d2] }
  | _ => none }
def JamNeedsWrongFalsely : Prop := jamNeedsRow.holds Tryz.pinned (OpenSpec.ofChange jamNeedsWrong)

/-- 'peaveylaw06.JamEither': WHATEVER THE INPUT: true; the input reads as it did. -/
def jamEitherSpec : ChangeSpec := { name := "jamEither", fn := fun _ => fun
  | [d1, d2, d3] => { results := [.lit (.bool true)], args := [d1, d2, d3] }
  | _ => none }
def jamEitherRow : OpenClaim := { program := "ytgndegccjhdmmaagreat", sum := "7d4fffbf7fa7329ec61dc169af9a3202dcaf7412b427691a06e1fcda13b52bc4", func := "peavey/peaveylaw06.JamEither", spec := "jamEither", unfollowed := true, recurses := true, plainKeys := false, apart := false }
def JamEitherSaid : Prop := jamEitherRow.holds Tryz.pinned (OpenSpec.ofChange jamEitherSpec)

/-- ITS FALSE NEIGHBOUR: 'it returns false'. Refute it at one input. -/
def jamEitherWrong : ChangeSpec := { name := "jamEither", fn := fun _ => fun
  | [d1, d2, d3] => { results := [.lit (.bool false)], args := [d1, d2, d3] }
  | _ => none }
def JamEitherWrongFalsely : Prop := jamEitherRow.holds Tryz.pinned (OpenSpec.ofChange jamEitherWrong)

/-- 'peaveylaw06.JamTight': WHATEVER THE INPUT: true; the input reads as it did. -/
def jamTightSpec : ChangeSpec := { name := "jamTight", fn := fun _ => fun
  | [d] => { results := [.lit (.bool true)], args := [d] }
  | _ => none }
def jamTightRow : OpenClaim := { program := "ytgndegccjhdmmaagreat", sum := "7d4fffbf7fa7329ec61dc169af9a3202dcaf7412b427691a06e1fcda13b52bc4", func := "peavey/peaveylaw06.JamTight", spec := "jamTight", unfollowed := true, recurses := true, plainKeys := false, apart := false }
def JamTightSaid : Prop := jamTightRow.holds Tryz.pinned (OpenSpec.ofChange jamTightSpec)

/-- ITS FALSE NEIGHBOUR: 'it returns false'. Refute it at one input. -/
def jamTightWrong : ChangeSpec := { name := "jamTight", fn := fun _ => fun
  | [d] => { results := [.lit (.bool false)], args := [d] }
  | _ => none }
def JamTightWrongFalsely : Prop := jamTightRow.holds Tryz.pinned (OpenSpec.ofChange jamTightWrong)

/-- 'peaveylaw06.JamMore': WHATEVER THE INPUT: true; the input reads as it did. -/
def jamMoreSpec : ChangeSpec := { name := "jamMore", fn := fun _ => fun
  | [d1, d2, d3, d4, d5] => { results := [.lit (.bool true)], args := [d1, d2, d3, d4, d5] }
  | _ => none }
def jamMoreRow : OpenClaim := { program := "ytgndegccjhdmmaagreat", sum := "7d4fffbf7fa7329ec61dc169af9a3202dcaf7412b427691a06e1fcda13b52bc4", func := "peavey/peaveylaw06.JamMore", spec := "jamMore", unfollowed := true, recurses := true, plainKeys := false, apart := false }
def JamMoreSaid : Prop := jamMoreRow.holds Tryz.pinned (OpenSpec.ofChange jamMoreSpec)

/-- ITS FALSE NEIGHBOUR: 'it returns false'. Refute it at one input. -/
def jamMoreWrong : ChangeSpec := { name := "jamMore", fn := fun _ => fun
  | [d1, d2, d3, d4, d5] => { results := [.lit (.bool false)], args := [d1, d2, d3, d4, d5] }
  | _ => none }
def JamMoreWrongFalsely : Prop := jamMoreRow.holds Tryz.pinned (OpenSpec.ofChange jamMoreWrong)

/-- 'peaveylaw06.JamApart': WHATEVER THE INPUT: true; the input reads as it did. -/
def jamApartSpec : ChangeSpec := { name := "jamApart", fn := fun _ => fun
  | [d1, d2] => { results := [.lit (.bool true)], args := [d1, d2] }
  | _ => none }
def jamApartRow : OpenClaim := { program := "ytgndegccjhdmmaagreat", sum := "7d4fffbf7fa7329ec61dc169af9a3202dcaf7412b427691a06e1fcda13b52bc4", func := "peavey/peaveylaw06.JamApart", spec := "jamApart", unfollowed := true, recurses := true, plainKeys := false, apart := false }
def JamApartSaid : Prop := jamApartRow.holds Tryz.pinned (OpenSpec.ofChange jamApartSpec)

/-- ITS FALSE NEIGHBOUR: 'it returns false'. Refute it at one input. -/
def jamApartWrong : ChangeSpec := { name := "jamApart", fn := fun _ => fun
  | [d1, d2] => { results := [.lit (.bool false)], args := [d1, d2] }
  | _ => none }
def JamApartWrongFalsely : Prop := jamApartRow.holds Tryz.pinned (OpenSpec.ofChange jamApartWrong)

/-- 'peaveylaw06.JamWaves': WHATEVER THE INPUT: true; the input reads as it did. -/
def jamWavesSpec : ChangeSpec := { name := "jamWaves", fn := fun _ => fun
  | [d1, d2] => { results := [.lit (.bool true)], args := [d1, d2] }
  | _ => none }
def jamWavesRow : OpenClaim := { program := "ytgndegccjhdmmaagreat", sum := "7d4fffbf7fa7329ec61dc169af9a3202dcaf7412b427691a06e1fcda13b52bc4", func := "peavey/peaveylaw06.JamWaves", spec := "jamWaves", unfollowed := true, recurses := true, plainKeys := false, apart := false }
def JamWavesSaid : Prop := jamWavesRow.holds Tryz.pinned (OpenSpec.ofChange jamWavesSpec)

/-- ITS FALSE NEIGHBOUR: 'it returns false'. Refute it at one input. -/
def jamWavesWrong : ChangeSpec := { name := "jamWaves", fn := fun _ => fun
  | [d1, d2] => { results := [.lit (.bool false)], args := [d1, d2] }
  | _ => none }
def JamWavesWrongFalsely : Prop := jamWavesRow.holds Tryz.pinned (OpenSpec.ofChange jamWavesWrong)

/-- 'peaveylaw06.JamNamed': WHATEVER THE INPUT: true; the input reads as it did. -/
def jamNamedSpec : ChangeSpec := { name := "jamNamed", fn := fun _ => fun
  | [d1, d2] => { results := [.lit (.bool true)], args := [d1, d2] }
  | _ => none }
def jamNamedRow : OpenClaim := { program := "ytgndegccjhdmmaagreat", sum := "7d4fffbf7fa7329ec61dc169af9a3202dcaf7412b427691a06e1fcda13b52bc4", func := "peavey/peaveylaw06.JamNamed", spec := "jamNamed", unfollowed := true, recurses := true, plainKeys := false, apart := false }
def JamNamedSaid : Prop := jamNamedRow.holds Tryz.pinned (OpenSpec.ofChange jamNamedSpec)

/-- ITS FALSE NEIGHBOUR: 'it returns false'. Refute it at one input. -/
def jamNamedWrong : ChangeSpec := { name := "jamNamed", fn := fun _ => fun
  | [d1, d2] => { results := [.lit (.bool false)], args := [d1, d2] }
  | _ => none }
def JamNamedWrongFalsely : Prop := jamNamedRow.holds Tryz.pinned (OpenSpec.ofChange jamNamedWrong)

/-- 'peaveylaw06.JamBeside': WHATEVER THE INPUT: true; the input reads as it did. -/
def jamBesideSpec : ChangeSpec := { name := "jamBeside", fn := fun _ => fun
  | [d1, d2] => { results := [.lit (.bool true)], args := [d1, d2] }
  | _ => none }
def jamBesideRow : OpenClaim := { program := "ytgndegccjhdmmaagreat", sum := "7d4fffbf7fa7329ec61dc169af9a3202dcaf7412b427691a06e1fcda13b52bc4", func := "peavey/peaveylaw06.JamBeside", spec := "jamBeside", unfollowed := true, recurses := true, plainKeys := false, apart := false }
def JamBesideSaid : Prop := jamBesideRow.holds Tryz.pinned (OpenSpec.ofChange jamBesideSpec)

/-- ITS FALSE NEIGHBOUR: 'it returns false'. Refute it at one input. -/
def jamBesideWrong : ChangeSpec := { name := "jamBeside", fn := fun _ => fun
  | [d1, d2] => { results := [.lit (.bool false)], args := [d1, d2] }
  | _ => none }
def JamBesideWrongFalsely : Prop := jamBesideRow.holds Tryz.pinned (OpenSpec.ofChange jamBesideWrong)

/-- 'peaveylaw06.JamNeeded': WHATEVER THE INPUT: true; the input reads as it did. -/
def jamNeededSpec : ChangeSpec := { name := "jamNeeded", fn := fun _ => fun
  | [d1, d2, d3] => { results := [.lit (.bool true)], args := [d1, d2, d3] }
  | _ => none }
def jamNeededRow : OpenClaim := { program := "ytgndegccjhdmmaagreat", sum := "7d4fffbf7fa7329ec61dc169af9a3202dcaf7412b427691a06e1fcda13b52bc4", func := "peavey/peaveylaw06.JamNeeded", spec := "jamNeeded", unfollowed := true, recurses := true, plainKeys := false, apart := false }
def JamNeededSaid : Prop := jamNeededRow.holds Tryz.pinned (OpenSpec.ofChange jamNeededSpec)

/-- ITS FALSE NEIGHBOUR: 'it returns false'. Refute it at one input. -/
def jamNeededWrong : ChangeSpec := { name := "jamNeeded", fn := fun _ => fun
  | [d1, d2, d3] => { results := [.lit (.bool false)], args := [d1, d2, d3] }
  | _ => none }
def JamNeededWrongFalsely : Prop := jamNeededRow.holds Tryz.pinned (OpenSpec.ofChange jamNeededWrong)

/-- 'peaveylaw06.JamKnown': WHATEVER THE INPUT: true; the input reads as it did. -/
def jamKnownSpec : ChangeSpec := { name := "jamKnown", fn := fun _ => fun
  | [] => { results := [.lit (.bool true)], args := [] }
  | _ => none }
def jamKnownRow : OpenClaim := { program := "ytgndegccjhdmmaagreat", sum := "7d4fffbf7fa7329ec61dc169af9a3202dcaf7412b427691a06e1fcda13b52bc4", func := "peavey/peaveylaw06.JamKnown", spec := "jamKnown", unfollowed := true, recurses := true, plainKeys := false, apart := false }
def JamKnownSaid : Prop := jamKnownRow.holds Tryz.pinned (OpenSpec.ofChange jamKnownSpec)

/-- ITS FALSE NEIGHBOUR: 'it returns false'. Refute it at one input. -/
def jamKnownWrong : ChangeSpec := { name := "jamKnown", fn := fun _ => fun
  | [] => { results := [.lit (.bool false)], args := [] }
  | _ => none }
def JamKnownWrongFalsely : Prop := jamKnownRow.holds Tryz.pinned (OpenSpec.ofChange jamKnownWrong)

/- THE SECOND FORM. 'bulk': how many values and letters a reading holds, each counted each time it is reached (what is shared counts as often as it is met; a slice's spare places count too). A statement '..UptoSaid' is the law's where the arguments, and the package variables that the reading takes, are together of bulk at most 1048576: NARROWER than '..Said'. Prove '..Said' where nothing that the law and all that it calls make is longer than what came in: it says more and counts as full. Else prove '..UptoSaid'. A law counts once. -/
mutual
def uptoBulk {H : Type} : DataW H → Nat
  | .lit (.string bytes) => bytes.length + 1
  | .lit _ => 1
  | .nil => 1
  | .ptr d => uptoBulk d + 1
  | .slice elems spare => uptoBulkAll elems + uptoBulkAll spare + 1
  | .agg parts => uptoBulkAll parts + 1
  | .iface _ d => uptoBulk d + 1
  | .map entries => uptoBulkEntries entries + 1
  | .held _ => 1
def uptoBulkAll {H : Type} : List (DataW H) → Nat
  | [] => 0
  | d :: r => uptoBulk d + uptoBulkAll r
def uptoBulkEntries {H : Type} : List (Lit × DataW H) → Nat
  | [] => 0
  | x :: r => uptoBulkEntry x + uptoBulkEntries r
def uptoBulkEntry {H : Type} : Lit × DataW H → Nat
  | (.string bytes, d) => bytes.length + uptoBulk d + 1
  | (_, d) => uptoBulk d + 1
 end
def uptoSmall : (H : Type) → List (DataW H) → Bool := fun _ ds => decide (uptoBulkAll ds ≤ 1048576)
def OpenSpec.upto (s : _root_.Go.ChangeSpec) : _root_.Go.OpenSpec := { _root_.Go.OpenSpec.ofChange s with cond := some uptoSmall }

/-- 'peaveylaw06.JamJams', WHERE WHAT IT READS IS OF BULK AT MOST 1048576: true; the input reads as it did. -/
def jamJamsUptoRow : OpenClaim := { program := "ytgndegccjhdmmaagreat", sum := "7d4fffbf7fa7329ec61dc169af9a3202dcaf7412b427691a06e1fcda13b52bc4", func := "peavey/peaveylaw06.JamJams", spec := "jamJams", unfollowed := true, recurses := true, plainKeys := false, apart := false, narrowed := true }
def JamJamsUptoSaid : Prop := jamJamsUptoRow.holds Tryz.pinned (OpenSpec.upto jamJamsSpec)

/-- 'peaveylaw06.JamKeys', WHERE WHAT IT READS IS OF BULK AT MOST 1048576: true; the input reads as it did. -/
def jamKeysUptoRow : OpenClaim := { program := "ytgndegccjhdmmaagreat", sum := "7d4fffbf7fa7329ec61dc169af9a3202dcaf7412b427691a06e1fcda13b52bc4", func := "peavey/peaveylaw06.JamKeys", spec := "jamKeys", unfollowed := true, recurses := true, plainKeys := false, apart := false, narrowed := true }
def JamKeysUptoSaid : Prop := jamKeysUptoRow.holds Tryz.pinned (OpenSpec.upto jamKeysSpec)

/-- 'peaveylaw06.JamLocks', WHERE WHAT IT READS IS OF BULK AT MOST 1048576: true; the input reads as it did. -/
def jamLocksUptoRow : OpenClaim := { program := "ytgndegccjhdmmaagreat", sum := "7d4fffbf7fa7329ec61dc169af9a3202dcaf7412b427691a06e1fcda13b52bc4", func := "peavey/peaveylaw06.JamLocks", spec := "jamLocks", unfollowed := true, recurses := true, plainKeys := false, apart := false, narrowed := true }
def JamLocksUptoSaid : Prop := jamLocksUptoRow.holds Tryz.pinned (OpenSpec.upto jamLocksSpec)

/-- 'peaveylaw06.JamAparts', WHERE WHAT IT READS IS OF BULK AT MOST 1048576: true; the input reads as it did. -/
def jamApartsUptoRow : OpenClaim := { program := "ytgndegccjhdmmaagreat", sum := "7d4fffbf7fa7329ec61dc169af9a3202dcaf7412b427691a06e1fcda13b52bc4", func := "peavey/peaveylaw06.JamAparts", spec := "jamAparts", unfollowed := true, recurses := true, plainKeys := false, apart := false, narrowed := true }
def JamApartsUptoSaid : Prop := jamApartsUptoRow.holds Tryz.pinned (OpenSpec.upto jamApartsSpec)

/-- 'peaveylaw06.JamNeeds', WHERE WHAT IT READS IS OF BULK AT MOST 1048576: true; the input reads as it did. -/
def jamNeedsUptoRow : OpenClaim := { program := "ytgndegccjhdmmaagreat", sum := "7d4fffbf7fa7329ec61dc169af9a3202dcaf7412b427691a06e1fcda13b52bc4", func := "peavey/peaveylaw06.JamNeeds", spec := "jamNeeds", unfollowed := true, recurses := true, plainKeys := false, apart := false, narrowed := true }
def JamNeedsUptoSaid : Prop := jamNeedsUptoRow.holds Tryz.pinned (OpenSpec.upto jamNeedsSpec)

/-- 'peaveylaw06.JamEither', WHERE WHAT IT READS IS OF BULK AT MOST 1048576: true; the input reads as it did. -/
def jamEitherUptoRow : OpenClaim := { program := "ytgndegccjhdmmaagreat", sum := "7d4fffbf7fa7329ec61dc169af9a3202dcaf7412b427691a06e1fcda13b52bc4", func := "peavey/peaveylaw06.JamEither", spec := "jamEither", unfollowed := true, recurses := true, plainKeys := false, apart := false, narrowed := true }
def JamEitherUptoSaid : Prop := jamEitherUptoRow.holds Tryz.pinned (OpenSpec.upto jamEitherSpec)

/-- 'peaveylaw06.JamTight', WHERE WHAT IT READS IS OF BULK AT MOST 1048576: true; the input reads as it did. -/
def jamTightUptoRow : OpenClaim := { program := "ytgndegccjhdmmaagreat", sum := "7d4fffbf7fa7329ec61dc169af9a3202dcaf7412b427691a06e1fcda13b52bc4", func := "peavey/peaveylaw06.JamTight", spec := "jamTight", unfollowed := true, recurses := true, plainKeys := false, apart := false, narrowed := true }
def JamTightUptoSaid : Prop := jamTightUptoRow.holds Tryz.pinned (OpenSpec.upto jamTightSpec)

/-- 'peaveylaw06.JamMore', WHERE WHAT IT READS IS OF BULK AT MOST 1048576: true; the input reads as it did. -/
def jamMoreUptoRow : OpenClaim := { program := "ytgndegccjhdmmaagreat", sum := "7d4fffbf7fa7329ec61dc169af9a3202dcaf7412b427691a06e1fcda13b52bc4", func := "peavey/peaveylaw06.JamMore", spec := "jamMore", unfollowed := true, recurses := true, plainKeys := false, apart := false, narrowed := true }
def JamMoreUptoSaid : Prop := jamMoreUptoRow.holds Tryz.pinned (OpenSpec.upto jamMoreSpec)

/-- 'peaveylaw06.JamApart', WHERE WHAT IT READS IS OF BULK AT MOST 1048576: true; the input reads as it did. -/
def jamApartUptoRow : OpenClaim := { program := "ytgndegccjhdmmaagreat", sum := "7d4fffbf7fa7329ec61dc169af9a3202dcaf7412b427691a06e1fcda13b52bc4", func := "peavey/peaveylaw06.JamApart", spec := "jamApart", unfollowed := true, recurses := true, plainKeys := false, apart := false, narrowed := true }
def JamApartUptoSaid : Prop := jamApartUptoRow.holds Tryz.pinned (OpenSpec.upto jamApartSpec)

/-- 'peaveylaw06.JamWaves', WHERE WHAT IT READS IS OF BULK AT MOST 1048576: true; the input reads as it did. -/
def jamWavesUptoRow : OpenClaim := { program := "ytgndegccjhdmmaagreat", sum := "7d4fffbf7fa7329ec61dc169af9a3202dcaf7412b427691a06e1fcda13b52bc4", func := "peavey/peaveylaw06.JamWaves", spec := "jamWaves", unfollowed := true, recurses := true, plainKeys := false, apart := false, narrowed := true }
def JamWavesUptoSaid : Prop := jamWavesUptoRow.holds Tryz.pinned (OpenSpec.upto jamWavesSpec)

/-- 'peaveylaw06.JamNamed', WHERE WHAT IT READS IS OF BULK AT MOST 1048576: true; the input reads as it did. -/
def jamNamedUptoRow : OpenClaim := { program := "ytgndegccjhdmmaagreat", sum := "7d4fffbf7fa7329ec61dc169af9a3202dcaf7412b427691a06e1fcda13b52bc4", func := "peavey/peaveylaw06.JamNamed", spec := "jamNamed", unfollowed := true, recurses := true, plainKeys := false, apart := false, narrowed := true }
def JamNamedUptoSaid : Prop := jamNamedUptoRow.holds Tryz.pinned (OpenSpec.upto jamNamedSpec)

/-- 'peaveylaw06.JamBeside', WHERE WHAT IT READS IS OF BULK AT MOST 1048576: true; the input reads as it did. -/
def jamBesideUptoRow : OpenClaim := { program := "ytgndegccjhdmmaagreat", sum := "7d4fffbf7fa7329ec61dc169af9a3202dcaf7412b427691a06e1fcda13b52bc4", func := "peavey/peaveylaw06.JamBeside", spec := "jamBeside", unfollowed := true, recurses := true, plainKeys := false, apart := false, narrowed := true }
def JamBesideUptoSaid : Prop := jamBesideUptoRow.holds Tryz.pinned (OpenSpec.upto jamBesideSpec)

/-- 'peaveylaw06.JamNeeded', WHERE WHAT IT READS IS OF BULK AT MOST 1048576: true; the input reads as it did. -/
def jamNeededUptoRow : OpenClaim := { program := "ytgndegccjhdmmaagreat", sum := "7d4fffbf7fa7329ec61dc169af9a3202dcaf7412b427691a06e1fcda13b52bc4", func := "peavey/peaveylaw06.JamNeeded", spec := "jamNeeded", unfollowed := true, recurses := true, plainKeys := false, apart := false, narrowed := true }
def JamNeededUptoSaid : Prop := jamNeededUptoRow.holds Tryz.pinned (OpenSpec.upto jamNeededSpec)

/-- 'peaveylaw06.JamKnown', WHERE WHAT IT READS IS OF BULK AT MOST 1048576: true; the input reads as it did. -/
def jamKnownUptoRow : OpenClaim := { program := "ytgndegccjhdmmaagreat", sum := "7d4fffbf7fa7329ec61dc169af9a3202dcaf7412b427691a06e1fcda13b52bc4", func := "peavey/peaveylaw06.JamKnown", spec := "jamKnown", unfollowed := true, recurses := true, plainKeys := false, apart := false, narrowed := true }
def JamKnownUptoSaid : Prop := jamKnownUptoRow.holds Tryz.pinned (OpenSpec.upto jamKnownSpec)

end Rows
end Go.Proofs.YtgndegccjhdmmaaGreat
