/- What a run by evaluation takes for granted: newLedger; the table of all functions. -/
import Derived.Test.YtgaijhpekajflaaSJ
set_option linter.unusedVariables false
set_option linter.unusedSimpArgs false
set_option maxHeartbeats 4000000
set_option maxRecDepth 100000
namespace Go.Ab
open Go Go.Proofs

def tr : Tr := (.node (.node (.node (.node (.node (.node (.node .leaf 2 ⟨ic2, rs2, 0⟩ .leaf) 16 ⟨ic16, rs16, 0⟩ .leaf) 17 ⟨ic17, rs17, 0⟩ (.node (.node .leaf 18 ⟨ic18, rs18, 0⟩ .leaf) 19 ⟨ic19, rs19, 0⟩ .leaf)) 20 ⟨ic20, rs20, 0⟩ (.node (.node (.node .leaf 21 ⟨ic21, rs21, 0⟩ .leaf) 22 ⟨ic22, rs22, 0⟩ .leaf) 23 ⟨ic23, rs23, 0⟩ (.node .leaf 24 ⟨ic24, rs24, 0⟩ .leaf))) 25 ⟨ic25, rs25, 0⟩ (.node (.node (.node (.node .leaf 26 ⟨ic26, rs26, 0⟩ .leaf) 27 ⟨ic27, rs27, 0⟩ .leaf) 28 ⟨ic28, rs28, 0⟩ (.node (.node .leaf 29 ⟨ic29, rs29, 0⟩ .leaf) 30 ⟨ic30, rs30, 0⟩ .leaf)) 31 ⟨ic31, rs31, 0⟩ (.node (.node (.node .leaf 32 ⟨ic32, rs32, 0⟩ .leaf) 33 ⟨ic33, rs33, 0⟩ .leaf) 34 ⟨ic34, rs34, 0⟩ (.node .leaf 35 ⟨ic35, rs35, 0⟩ .leaf)))) 36 ⟨ic36, rs36, 0⟩ (.node (.node (.node (.node (.node .leaf 37 ⟨ic37, rs37, 0⟩ .leaf) 38 ⟨ic38, rs38, 0⟩ .leaf) 39 ⟨ic39, rs39, 0⟩ (.node (.node .leaf 40 ⟨ic40, rs40, 0⟩ .leaf) 41 ⟨ic41, rs41, 0⟩ .leaf)) 42 ⟨ic42, rs42, 0⟩ (.node (.node (.node .leaf 43 ⟨ic43, rs43, 0⟩ .leaf) 44 ⟨ic44, rs44, 0⟩ .leaf) 45 ⟨ic45, rs45, 0⟩ (.node .leaf 46 ⟨ic46, rs46, 0⟩ .leaf))) 47 ⟨ic47, rs47, 2⟩ (.node (.node (.node (.node .leaf 48 ⟨ic48, rs48, 0⟩ .leaf) 49 ⟨ic49, rs49, 0⟩ .leaf) 50 ⟨ic50, rs50, 0⟩ (.node .leaf 51 ⟨ic51, rs51, 0⟩ .leaf)) 52 ⟨ic52, rs52, 0⟩ (.node (.node (.node .leaf 53 ⟨ic53, rs53, 0⟩ .leaf) 54 ⟨ic54, rs54, 0⟩ .leaf) 55 ⟨ic55, rs55, 0⟩ (.node .leaf 56 ⟨ic56, rs56, 0⟩ .leaf))))) 57 ⟨ic57, rs57, 0⟩ (.node (.node (.node (.node (.node (.node .leaf 58 ⟨ic58, rs58, 0⟩ .leaf) 59 ⟨ic59, rs59, 0⟩ .leaf) 60 ⟨ic60, rs60, 0⟩ (.node (.node .leaf 61 ⟨ic61, rs61, 0⟩ .leaf) 62 ⟨ic62, rs62, 0⟩ .leaf)) 63 ⟨ic63, rs63, 0⟩ (.node (.node (.node .leaf 64 ⟨ic64, rs64, 0⟩ .leaf) 65 ⟨ic65, rs65, 0⟩ .leaf) 66 ⟨ic66, rs66, 0⟩ (.node .leaf 67 ⟨ic67, rs67, 0⟩ .leaf))) 68 ⟨ic68, rs68, 0⟩ (.node (.node (.node (.node .leaf 69 ⟨ic69, rs69, 0⟩ .leaf) 70 ⟨ic70, rs70, 0⟩ .leaf) 71 ⟨ic71, rs71, 0⟩ (.node .leaf 72 ⟨ic72, rs72, 0⟩ .leaf)) 73 ⟨ic73, rs73, 1⟩ (.node (.node (.node .leaf 74 ⟨ic74, rs74, 2⟩ .leaf) 75 ⟨ic75, rs75, 1⟩ .leaf) 76 ⟨ic76, rs76, 0⟩ (.node .leaf 77 ⟨ic77, rs77, 0⟩ .leaf)))) 78 ⟨ic78, rs78, 0⟩ (.node (.node (.node (.node (.node .leaf 79 ⟨ic79, rs79, 0⟩ .leaf) 80 ⟨ic80, rs80, 0⟩ .leaf) 81 ⟨ic81, rs81, 0⟩ (.node (.node .leaf 82 ⟨ic82, rs82, 0⟩ .leaf) 83 ⟨ic83, rs83, 0⟩ .leaf)) 84 ⟨ic84, rs84, 0⟩ (.node (.node (.node .leaf 85 ⟨ic85, rs85, 1⟩ .leaf) 86 ⟨ic86, rs86, 0⟩ .leaf) 87 ⟨ic87, rs87, 1⟩ (.node .leaf 88 ⟨ic88, rs88, 0⟩ .leaf))) 89 ⟨ic89, rs89, 0⟩ (.node (.node (.node (.node .leaf 90 ⟨ic90, rs90, 0⟩ .leaf) 91 ⟨ic91, rs91, 1⟩ .leaf) 92 ⟨ic92, rs92, 0⟩ (.node .leaf 93 ⟨ic93, rs93, 0⟩ .leaf)) 94 ⟨ic94, rs94, 1⟩ (.node (.node (.node .leaf 100 ⟨ic100, rs100, 0⟩ .leaf) 103 ⟨ic103, rs103, 0⟩ .leaf) 104 ⟨ic104, rs104, 0⟩ (.node .leaf 110 ⟨ic110, rs110, 0⟩ .leaf))))))
theorem tr_ok : TOK Try.prog tr.get := Tr.ok ⟨⟨⟨⟨⟨⟨⟨trivial, ⟨_, _, fn2⟩, trivial⟩, ⟨_, _, fn16⟩, trivial⟩, ⟨_, _, fn17⟩, ⟨⟨trivial, ⟨_, _, fn18⟩, trivial⟩, ⟨_, _, fn19⟩, trivial⟩⟩, ⟨_, _, fn20⟩, ⟨⟨⟨trivial, ⟨_, _, fn21⟩, trivial⟩, ⟨_, _, fn22⟩, trivial⟩, ⟨_, _, fn23⟩, ⟨trivial, ⟨_, _, fn24⟩, trivial⟩⟩⟩, ⟨_, _, fn25⟩, ⟨⟨⟨⟨trivial, ⟨_, _, fn26⟩, trivial⟩, ⟨_, _, fn27⟩, trivial⟩, ⟨_, _, fn28⟩, ⟨⟨trivial, ⟨_, _, fn29⟩, trivial⟩, ⟨_, _, fn30⟩, trivial⟩⟩, ⟨_, _, fn31⟩, ⟨⟨⟨trivial, ⟨_, _, fn32⟩, trivial⟩, ⟨_, _, fn33⟩, trivial⟩, ⟨_, _, fn34⟩, ⟨trivial, ⟨_, _, fn35⟩, trivial⟩⟩⟩⟩, ⟨_, _, fn36⟩, ⟨⟨⟨⟨⟨trivial, ⟨_, _, fn37⟩, trivial⟩, ⟨_, _, fn38⟩, trivial⟩, ⟨_, _, fn39⟩, ⟨⟨trivial, ⟨_, _, fn40⟩, trivial⟩, ⟨_, _, fn41⟩, trivial⟩⟩, ⟨_, _, fn42⟩, ⟨⟨⟨trivial, ⟨_, _, fn43⟩, trivial⟩, ⟨_, _, fn44⟩, trivial⟩, ⟨_, _, fn45⟩, ⟨trivial, ⟨_, _, fn46⟩, trivial⟩⟩⟩, ⟨_, _, fn47⟩, ⟨⟨⟨⟨trivial, ⟨_, _, fn48⟩, trivial⟩, ⟨_, _, fn49⟩, trivial⟩, ⟨_, _, fn50⟩, ⟨trivial, ⟨_, _, fn51⟩, trivial⟩⟩, ⟨_, _, fn52⟩, ⟨⟨⟨trivial, ⟨_, _, fn53⟩, trivial⟩, ⟨_, _, fn54⟩, trivial⟩, ⟨_, _, fn55⟩, ⟨trivial, ⟨_, _, fn56⟩, trivial⟩⟩⟩⟩⟩, ⟨_, _, fn57⟩, ⟨⟨⟨⟨⟨⟨trivial, ⟨_, _, fn58⟩, trivial⟩, ⟨_, _, fn59⟩, trivial⟩, ⟨_, _, fn60⟩, ⟨⟨trivial, ⟨_, _, fn61⟩, trivial⟩, ⟨_, _, fn62⟩, trivial⟩⟩, ⟨_, _, fn63⟩, ⟨⟨⟨trivial, ⟨_, _, fn64⟩, trivial⟩, ⟨_, _, fn65⟩, trivial⟩, ⟨_, _, fn66⟩, ⟨trivial, ⟨_, _, fn67⟩, trivial⟩⟩⟩, ⟨_, _, fn68⟩, ⟨⟨⟨⟨trivial, ⟨_, _, fn69⟩, trivial⟩, ⟨_, _, fn70⟩, trivial⟩, ⟨_, _, fn71⟩, ⟨trivial, ⟨_, _, fn72⟩, trivial⟩⟩, ⟨_, _, fn73⟩, ⟨⟨⟨trivial, ⟨_, _, fn74⟩, trivial⟩, ⟨_, _, fn75⟩, trivial⟩, ⟨_, _, fn76⟩, ⟨trivial, ⟨_, _, fn77⟩, trivial⟩⟩⟩⟩, ⟨_, _, fn78⟩, ⟨⟨⟨⟨⟨trivial, ⟨_, _, fn79⟩, trivial⟩, ⟨_, _, fn80⟩, trivial⟩, ⟨_, _, fn81⟩, ⟨⟨trivial, ⟨_, _, fn82⟩, trivial⟩, ⟨_, _, fn83⟩, trivial⟩⟩, ⟨_, _, fn84⟩, ⟨⟨⟨trivial, ⟨_, _, fn85⟩, trivial⟩, ⟨_, _, fn86⟩, trivial⟩, ⟨_, _, fn87⟩, ⟨trivial, ⟨_, _, fn88⟩, trivial⟩⟩⟩, ⟨_, _, fn89⟩, ⟨⟨⟨⟨trivial, ⟨_, _, fn90⟩, trivial⟩, ⟨_, _, fn91⟩, trivial⟩, ⟨_, _, fn92⟩, ⟨trivial, ⟨_, _, fn93⟩, trivial⟩⟩, ⟨_, _, fn94⟩, ⟨⟨⟨trivial, ⟨_, _, fn100⟩, trivial⟩, ⟨_, _, fn103⟩, trivial⟩, ⟨_, _, fn104⟩, ⟨trivial, ⟨_, _, fn110⟩, trivial⟩⟩⟩⟩⟩⟩

def decD : List V → Option (List Db)
  | [] => some []
  | .i .i64 a :: .i .i64 b :: .i .i64 c :: r => match decD r with
    | some l => fI a fun a => fI b fun b => fI c fun c => some ((a, b, c) :: l)
    | none => none
  | _ => none
theorem decD_ok : ∀ {l : List V} {D : List Db}, decD l = some D → l = lsD D
  | [], D, h => by simp only [decD, Option.some.injEq] at h; subst h; rfl
  | x :: r, D, h => by
    unfold decD at h
    split at h
    · cases h; simp_all
    · rename_i a b c r' he
      cases he
      split at h
      · rename_i l hl
        simp only [fI_eq, Option.some.injEq] at h
        subst h
        rw [decD_ok hl]; rfl
      · cases h
    · cases h
def fIs {α : Type} : List Int → (List Int → α) → α
  | [], c => c []
  | x :: r, c => fI x fun x => fIs r fun r => c (x :: r)
theorem fIs_eq {α : Type} : ∀ {l : List Int} {c : List Int → α}, fIs l c = c l
  | [], c => rfl
  | x :: r, c => by simp only [fIs, fI_eq]; rw [fIs_eq]
/-- The prices, one after another. -/
def prGo (ev : Nat → Bool) (N : Nat) : Nat → Nat → List Int → List Int
  | 0, _, L => L
  | n + 1, s, L => fIs (L ++ [stepP ev N L s]) fun L' => prGo ev N n (s + 1) L'
theorem prGo_eq {ev N} : ∀ {n s : Nat}, 1 ≤ s → prGo ev N n s (prL ev N s) = prL ev N (s + n)
  | 0, s, _ => rfl
  | n + 1, s, h => by
    rw [prGo, fIs_eq, ← prL_succ h, prGo_eq (by omega)]
    congr 1
    omega
def orcS : FuncId → List V → Option V := fun f args =>
  match Nat.beq f 82 with
  | true => match args with
    | [.agg [.i .i64 (.ofNat N), .ss d m fb]] => match decD d with
      | some D => match m == D.length && decide (checkBook N D = 0) with
        | true => fIs (prGo (evF (balF D) N) N (2 ^ N - 1) 1 [0]) fun P => fV (ledV N D fb (balF D) (evens (balF D) N) P) fun v => some v
        | false => none
      | none => none
    | _ => none
  | false => none
theorem orcS_ok : OrcOK Try.prog orcS := by
  intro f args v h
  unfold orcS at h
  split at h
  · rename_i hf
    have := Nat.eq_of_beq_eq_true hf
    subst this
    split at h
    · rename_i N d m fb
      split at h
      · rename_i D h1
        split at h
        · rename_i hc
          simp only [Bool.and_eq_true, beq_iff_eq, decide_eq_true_eq] at hc
          obtain ⟨rfl, c2⟩ := hc
          have e := decD_ok h1
          subst e
          obtain ⟨⟨n1, n2⟩, hlen, hD, -⟩ := book_ok c2
          have hp := Nat.two_pow_pos N
          rw [fIs_eq, fV_eq] at h
          have hpr := prGo_eq (ev := evF (balF D) N) (N := N) (n := 2 ^ N - 1) (s := 1) (by omega)
          rw [show prL (evF (balF D) N) N 1 = [0] from rfl, show 1 + (2 ^ N - 1) = 2 ^ N by omega] at hpr
          rw [hpr] at h
          cases h
          exact newLedger82 (M := 0) rfl (by omega) (by omega) hD hlen
        · cases h
      · cases h
    · cases h
  · cases h
def oiS : Oi := fun _ _ _ _ => none
theorem oiS_ok : ∀ f a b σ xs pre, oiS f a b σ = some (xs, pre) → ItT f a b xs.length (fun i x _ g => xs[i]? = some x ∧ g = []) (fun σ => pre σ = true) := by
  intro f a b σ xs pre h
  cases h
def runY (f : FuncId) (args : List V) : Option (V × List O) := (callsX tr.get orcS oiS 3000 20).1 f args []
theorem runY_ok {f : FuncId} {args : List V} {v : V} (h : runY f args = some (v, [])) : FSpec Try.prog f args [] v [] := run_sound tr_ok orcS_ok mixed itT_ok oiS_ok h
end Go.Ab
