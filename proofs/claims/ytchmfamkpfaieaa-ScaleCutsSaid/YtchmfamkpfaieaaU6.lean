/- What is known of functions that a run by evaluation does not step through: newYard, logs; the table of all functions. -/
import Derived.Test.YtchmfamkpfaieaaU5
import Derived.Test.YtchmfamkpfaieaaAbY
set_option linter.unusedVariables false
set_option linter.unusedSimpArgs false
set_option maxHeartbeats 4000000
namespace Go.Ab
open Go Go.Proofs

def tr : Tr := (.node (.node (.node (.node (.node (.node (.node .leaf 2 ⟨ic2, rs2, 0⟩ .leaf) 3 ⟨ic3, rs3, 0⟩ .leaf) 4 ⟨ic4, rs4, 0⟩ (.node (.node .leaf 5 ⟨ic5, rs5, 0⟩ .leaf) 6 ⟨ic6, rs6, 0⟩ .leaf)) 7 ⟨ic7, rs7, 0⟩ (.node (.node (.node .leaf 8 ⟨ic8, rs8, 0⟩ .leaf) 9 ⟨ic9, rs9, 0⟩ .leaf) 12 ⟨ic12, rs12, 0⟩ (.node .leaf 13 ⟨ic13, rs13, 0⟩ .leaf))) 14 ⟨ic14, rs14, 0⟩ (.node (.node (.node (.node .leaf 15 ⟨ic15, rs15, 0⟩ .leaf) 16 ⟨ic16, rs16, 0⟩ .leaf) 17 ⟨ic17, rs17, 0⟩ (.node (.node .leaf 18 ⟨ic18, rs18, 0⟩ .leaf) 19 ⟨ic19, rs19, 0⟩ .leaf)) 20 ⟨ic20, rs20, 0⟩ (.node (.node (.node .leaf 21 ⟨ic21, rs21, 0⟩ .leaf) 22 ⟨ic22, rs22, 0⟩ .leaf) 23 ⟨ic23, rs23, 0⟩ (.node .leaf 24 ⟨ic24, rs24, 0⟩ .leaf)))) 25 ⟨ic25, rs25, 0⟩ (.node (.node (.node (.node (.node .leaf 26 ⟨ic26, rs26, 0⟩ .leaf) 27 ⟨ic27, rs27, 0⟩ .leaf) 28 ⟨ic28, rs28, 0⟩ (.node (.node .leaf 29 ⟨ic29, rs29, 0⟩ .leaf) 30 ⟨ic30, rs30, 0⟩ .leaf)) 31 ⟨ic31, rs31, 0⟩ (.node (.node (.node .leaf 32 ⟨ic32, rs32, 0⟩ .leaf) 33 ⟨ic33, rs33, 0⟩ .leaf) 34 ⟨ic34, rs34, 0⟩ (.node .leaf 35 ⟨ic35, rs35, 0⟩ .leaf))) 36 ⟨ic36, rs36, 0⟩ (.node (.node (.node (.node .leaf 37 ⟨ic37, rs37, 0⟩ .leaf) 38 ⟨ic38, rs38, 0⟩ .leaf) 39 ⟨ic39, rs39, 0⟩ (.node .leaf 40 ⟨ic40, rs40, 0⟩ .leaf)) 41 ⟨ic41, rs41, 0⟩ (.node (.node (.node .leaf 42 ⟨ic42, rs42, 0⟩ .leaf) 43 ⟨ic43, rs43, 0⟩ .leaf) 44 ⟨ic44, rs44, 0⟩ (.node .leaf 45 ⟨ic45, rs45, 0⟩ .leaf))))) 46 ⟨ic46, rs46, 0⟩ (.node (.node (.node (.node (.node (.node .leaf 47 ⟨ic47, rs47, 0⟩ .leaf) 48 ⟨ic48, rs48, 0⟩ .leaf) 49 ⟨ic49, rs49, 0⟩ (.node (.node .leaf 50 ⟨ic50, rs50, 0⟩ .leaf) 51 ⟨ic51, rs51, 0⟩ .leaf)) 52 ⟨ic52, rs52, 0⟩ (.node (.node (.node .leaf 53 ⟨ic53, rs53, 0⟩ .leaf) 54 ⟨ic54, rs54, 0⟩ .leaf) 55 ⟨ic55, rs55, 0⟩ (.node .leaf 56 ⟨ic56, rs56, 0⟩ .leaf))) 57 ⟨ic57, rs57, 0⟩ (.node (.node (.node (.node .leaf 58 ⟨ic58, rs58, 0⟩ .leaf) 59 ⟨ic59, rs59, 0⟩ .leaf) 60 ⟨ic60, rs60, 0⟩ (.node (.node .leaf 61 ⟨ic61, rs61, 0⟩ .leaf) 62 ⟨ic62, rs62, 0⟩ .leaf)) 63 ⟨ic63, rs63, 0⟩ (.node (.node (.node .leaf 64 ⟨ic64, rs64, 0⟩ .leaf) 65 ⟨ic65, rs65, 0⟩ .leaf) 66 ⟨ic66, rs66, 0⟩ (.node .leaf 67 ⟨ic67, rs67, 0⟩ .leaf)))) 68 ⟨ic68, rs68, 0⟩ (.node (.node (.node (.node (.node .leaf 69 ⟨ic69, rs69, 0⟩ .leaf) 70 ⟨ic70, rs70, 0⟩ .leaf) 71 ⟨ic71, rs71, 0⟩ (.node (.node .leaf 72 ⟨ic72, rs72, 0⟩ .leaf) 73 ⟨ic73, rs73, 0⟩ .leaf)) 74 ⟨ic74, rs74, 0⟩ (.node (.node (.node .leaf 75 ⟨ic75, rs75, 0⟩ .leaf) 76 ⟨ic76, rs76, 0⟩ .leaf) 77 ⟨ic77, rs77, 0⟩ (.node .leaf 78 ⟨ic78, rs78, 0⟩ .leaf))) 79 ⟨ic79, rs79, 0⟩ (.node (.node (.node (.node .leaf 80 ⟨ic80, rs80, 0⟩ .leaf) 81 ⟨ic81, rs81, 0⟩ .leaf) 82 ⟨ic82, rs82, 0⟩ (.node .leaf 83 ⟨ic83, rs83, 0⟩ .leaf)) 84 ⟨ic84, rs84, 0⟩ (.node (.node (.node .leaf 85 ⟨ic85, rs85, 0⟩ .leaf) 86 ⟨ic86, rs86, 0⟩ .leaf) 87 ⟨ic87, rs87, 0⟩ (.node .leaf 88 ⟨ic88, rs88, 0⟩ .leaf))))))
theorem tr_ok : TOK Try.prog tr.get := Tr.ok ⟨⟨⟨⟨⟨⟨⟨trivial, ⟨_, _, fn2⟩, trivial⟩, ⟨_, _, fn3⟩, trivial⟩, ⟨_, _, fn4⟩, ⟨⟨trivial, ⟨_, _, fn5⟩, trivial⟩, ⟨_, _, fn6⟩, trivial⟩⟩, ⟨_, _, fn7⟩, ⟨⟨⟨trivial, ⟨_, _, fn8⟩, trivial⟩, ⟨_, _, fn9⟩, trivial⟩, ⟨_, _, fn12⟩, ⟨trivial, ⟨_, _, fn13⟩, trivial⟩⟩⟩, ⟨_, _, fn14⟩, ⟨⟨⟨⟨trivial, ⟨_, _, fn15⟩, trivial⟩, ⟨_, _, fn16⟩, trivial⟩, ⟨_, _, fn17⟩, ⟨⟨trivial, ⟨_, _, fn18⟩, trivial⟩, ⟨_, _, fn19⟩, trivial⟩⟩, ⟨_, _, fn20⟩, ⟨⟨⟨trivial, ⟨_, _, fn21⟩, trivial⟩, ⟨_, _, fn22⟩, trivial⟩, ⟨_, _, fn23⟩, ⟨trivial, ⟨_, _, fn24⟩, trivial⟩⟩⟩⟩, ⟨_, _, fn25⟩, ⟨⟨⟨⟨⟨trivial, ⟨_, _, fn26⟩, trivial⟩, ⟨_, _, fn27⟩, trivial⟩, ⟨_, _, fn28⟩, ⟨⟨trivial, ⟨_, _, fn29⟩, trivial⟩, ⟨_, _, fn30⟩, trivial⟩⟩, ⟨_, _, fn31⟩, ⟨⟨⟨trivial, ⟨_, _, fn32⟩, trivial⟩, ⟨_, _, fn33⟩, trivial⟩, ⟨_, _, fn34⟩, ⟨trivial, ⟨_, _, fn35⟩, trivial⟩⟩⟩, ⟨_, _, fn36⟩, ⟨⟨⟨⟨trivial, ⟨_, _, fn37⟩, trivial⟩, ⟨_, _, fn38⟩, trivial⟩, ⟨_, _, fn39⟩, ⟨trivial, ⟨_, _, fn40⟩, trivial⟩⟩, ⟨_, _, fn41⟩, ⟨⟨⟨trivial, ⟨_, _, fn42⟩, trivial⟩, ⟨_, _, fn43⟩, trivial⟩, ⟨_, _, fn44⟩, ⟨trivial, ⟨_, _, fn45⟩, trivial⟩⟩⟩⟩⟩, ⟨_, _, fn46⟩, ⟨⟨⟨⟨⟨⟨trivial, ⟨_, _, fn47⟩, trivial⟩, ⟨_, _, fn48⟩, trivial⟩, ⟨_, _, fn49⟩, ⟨⟨trivial, ⟨_, _, fn50⟩, trivial⟩, ⟨_, _, fn51⟩, trivial⟩⟩, ⟨_, _, fn52⟩, ⟨⟨⟨trivial, ⟨_, _, fn53⟩, trivial⟩, ⟨_, _, fn54⟩, trivial⟩, ⟨_, _, fn55⟩, ⟨trivial, ⟨_, _, fn56⟩, trivial⟩⟩⟩, ⟨_, _, fn57⟩, ⟨⟨⟨⟨trivial, ⟨_, _, fn58⟩, trivial⟩, ⟨_, _, fn59⟩, trivial⟩, ⟨_, _, fn60⟩, ⟨⟨trivial, ⟨_, _, fn61⟩, trivial⟩, ⟨_, _, fn62⟩, trivial⟩⟩, ⟨_, _, fn63⟩, ⟨⟨⟨trivial, ⟨_, _, fn64⟩, trivial⟩, ⟨_, _, fn65⟩, trivial⟩, ⟨_, _, fn66⟩, ⟨trivial, ⟨_, _, fn67⟩, trivial⟩⟩⟩⟩, ⟨_, _, fn68⟩, ⟨⟨⟨⟨⟨trivial, ⟨_, _, fn69⟩, trivial⟩, ⟨_, _, fn70⟩, trivial⟩, ⟨_, _, fn71⟩, ⟨⟨trivial, ⟨_, _, fn72⟩, trivial⟩, ⟨_, _, fn73⟩, trivial⟩⟩, ⟨_, _, fn74⟩, ⟨⟨⟨trivial, ⟨_, _, fn75⟩, trivial⟩, ⟨_, _, fn76⟩, trivial⟩, ⟨_, _, fn77⟩, ⟨trivial, ⟨_, _, fn78⟩, trivial⟩⟩⟩, ⟨_, _, fn79⟩, ⟨⟨⟨⟨trivial, ⟨_, _, fn80⟩, trivial⟩, ⟨_, _, fn81⟩, trivial⟩, ⟨_, _, fn82⟩, ⟨trivial, ⟨_, _, fn83⟩, trivial⟩⟩, ⟨_, _, fn84⟩, ⟨⟨⟨trivial, ⟨_, _, fn85⟩, trivial⟩, ⟨_, _, fn86⟩, trivial⟩, ⟨_, _, fn87⟩, ⟨trivial, ⟨_, _, fn88⟩, trivial⟩⟩⟩⟩⟩⟩

def fKn {α : Type} : Kn → (Kn → α) → α
  | [], c => c []
  | ((x, y), v) :: r, c => fI x fun x => fI y fun y => fI v fun v => fKn r fun r => c (((x, y), v) :: r)
theorem fKn_eq {α : Type} : ∀ {l : Kn} {c : Kn → α}, fKn l c = c l
  | [], c => rfl
  | ((x, y), v) :: r, c => by simp only [fKn, fI_eq]; rw [fKn_eq]

def ruB (r : Ru) : Bool := r.ok
def orcY : FuncId → List V → Option V := fun f args =>
  match Nat.beq f 77 with
  | true => match args with
    | [.agg [.ss t n ft, .ss b m fb], .agg [.i .i64 a1, .i .i64 a2, .i .i64 a3, .i .i64 a4, .i .i64 a5, .i .i64 a6, .i .i64 a7]] =>
      match intsV t, intsV b with
      | some tt, some bb => match n == tt.length && m == bb.length && Nat.ble 2 n && Nat.ble n 61 && Nat.ble m 1000 && tt.all (fit 0 60) && Ru.ok ⟨a1, a2, a3, a4, a5, a6, a7⟩ with
        | true => fKn (knownK tt bb ⟨a1, a2, a3, a4, a5, a6, a7⟩) fun kn => some (yardV tt ft bb fb kn)
        | false => none
      | _, _ => none
    | _ => none
  | false => none

theorem orcY_ok : OrcOK Try.prog orcY := by
  intro f args v h
  unfold orcY at h
  split at h
  · rename_i hf
    have := Nat.eq_of_beq_eq_true hf
    subst this
    split at h
    · rename_i t n ft b m fb a1 a2 a3 a4 a5 a6 a7
      split at h
      · rename_i tt bb h1 h2
        split at h
        · rename_i hc
          simp only [Bool.and_eq_true, beq_iff_eq, Nat.ble_eq] at hc
          obtain ⟨⟨⟨⟨⟨⟨c1, c2⟩, c3⟩, c4⟩, c5⟩, c6⟩, c7⟩ := hc
          rw [fKn_eq] at h
          cases h
          have e1 := intsV_ok h1
          have e2 := intsV_ok h2
          subst e1 e2 c1 c2
          refine newYard_ok (r := ⟨a1, a2, a3, a4, a5, a6, a7⟩) c3 c4 (fun x hx => ?_) (by omega) (Ru.bounds c7)
          have := List.all_eq_true.1 c6 x hx
          simp only [fit, Bool.and_eq_true, decide_eq_true_eq] at this
          exact this
        · cases h
      · cases h
    · cases h
  · cases h

def decKn : List (V × V) → Option Kn
  | [] => some []
  | (.agg [.i .i64 x, .i .i64 y], .i .i64 v) :: r => match decKn r with
    | some l => some (((x, y), v) :: l)
    | none => none
  | _ => none
theorem decKn_ok : ∀ {l : List (V × V)} {kn : Kn}, decKn l = some kn → l = kn.map entV
  | [], kn, h => by simp only [decKn, Option.some.injEq] at h; subst h; rfl
  | e :: r, kn, h => by
    unfold decKn at h
    split at h
    · cases h; simp_all
    · rename_i x y v r' he
      cases he
      split at h
      · rename_i l hl
        simp only [Option.some.injEq] at h
        subst h
        rw [decKn_ok hl]; rfl
      · cases h
    · cases h

def fPairs {α : Type} : List (Int × Int) → (List (Int × Int) → α) → α
  | [], c => c []
  | (x, y) :: r, c => fI x fun x => fI y fun y => fPairs r fun r => c ((x, y) :: r)
theorem fPairs_eq {α : Type} : ∀ {l : List (Int × Int)} {c : List (Int × Int) → α}, fPairs l c = c l
  | [], c => rfl
  | (x, y) :: r, c => by simp only [fPairs, fI_eq]; rw [fPairs_eq]

def oiY : Oi := fun f first cap _ =>
  match Nat.beq f 84 with
  | true => match first, cap with
    | [], [.sp [.i .i64 (.ofNat fr)] 0, .sp [.sp [.ss t n ft, .ss b m fb, .sm kn] 0] 0] =>
      match intsV t, intsV b, decKn kn with
      | some tt, some bb, some kk => match n == tt.length && m == bb.length && Nat.ble n 61 && Nat.blt fr n with
        | true => fPairs (logsUp kk fr (n - 1 - fr)) fun l => some (l.map (logV fr), fun _ => true)
        | false => none
      | _, _, _ => none
    | _, _ => none
  | false => none

theorem oiY_ok : ∀ f a b σ xs pre, oiY f a b σ = some (xs, pre) → ItT f a b xs (fun σ => pre σ = true) := by
  intro f a b σ xs pre h
  unfold oiY at h
  split at h
  · rename_i hf
    have := Nat.eq_of_beq_eq_true hf
    subst this
    split at h
    · rename_i fr t n ft b m fb kn
      split at h
      · rename_i tt bb kk h1 h2 h3
        split at h
        · rename_i hc
          simp only [Bool.and_eq_true, beq_iff_eq, Nat.ble_eq, Nat.blt_eq] at hc
          obtain ⟨⟨⟨c1, c2⟩, c3⟩, c4⟩ := hc
          rw [fPairs_eq] at h
          cases h
          have e1 := intsV_ok h1
          have e2 := intsV_ok h2
          have e3 := decKn_ok h3
          subst e1 e2 e3 c1 c2
          exact logs_it (by omega) c3 c4
        · cases h
      · cases h
    · cases h
  · cases h

def runY (f : FuncId) (args : List V) : Option (V × List O) := (callsX tr.get orcY oiY 1000 20).1 f args []
theorem runY_ok {f : FuncId} {args : List V} {v : V} (h : runY f args = some (v, [])) : FSpec Try.prog f args [] v [] := run_sound tr_ok orcY_ok mixed itT_ok oiY_ok h
end Go.Ab
