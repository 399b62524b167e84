/- What a run by evaluation takes for granted: newHeap, the sets of logs; the table of all functions. -/
import Derived.Test.YtgndegccjhdmmaaGreatJJ
import Derived.Test.YtgndegccjhdmmaaGreatKA
set_option linter.unusedVariables false
set_option linter.unusedSimpArgs false
set_option maxHeartbeats 4000000
set_option maxRecDepth 100000
namespace Go.Ab
open Go Go.Proofs

def tr : Tr := (.node (.node (.node (.node (.node (.node (.node .leaf 17 ⟨ic17, rs17, 0⟩ .leaf) 18 ⟨ic18, rs18, 0⟩ (.node .leaf 19 ⟨ic19, rs19, 0⟩ .leaf)) 20 ⟨ic20, rs20, 0⟩ (.node (.node .leaf 21 ⟨ic21, rs21, 0⟩ .leaf) 22 ⟨ic22, rs22, 0⟩ (.node .leaf 23 ⟨ic23, rs23, 0⟩ .leaf))) 24 ⟨ic24, rs24, 0⟩ (.node (.node (.node .leaf 25 ⟨ic25, rs25, 0⟩ .leaf) 26 ⟨ic26, rs26, 0⟩ (.node .leaf 27 ⟨ic27, rs27, 0⟩ .leaf)) 28 ⟨ic28, rs28, 0⟩ (.node (.node .leaf 29 ⟨ic29, rs29, 0⟩ .leaf) 30 ⟨ic30, rs30, 0⟩ (.node .leaf 31 ⟨ic31, rs31, 0⟩ .leaf)))) 32 ⟨ic32, rs32, 0⟩ (.node (.node (.node (.node .leaf 33 ⟨ic33, rs33, 0⟩ .leaf) 34 ⟨ic34, rs34, 0⟩ (.node .leaf 35 ⟨ic35, rs35, 0⟩ .leaf)) 36 ⟨ic36, rs36, 0⟩ (.node (.node .leaf 37 ⟨ic37, rs37, 0⟩ .leaf) 38 ⟨ic38, rs38, 0⟩ (.node .leaf 39 ⟨ic39, rs39, 0⟩ .leaf))) 40 ⟨ic40, rs40, 0⟩ (.node (.node (.node .leaf 41 ⟨ic41, rs41, 0⟩ .leaf) 42 ⟨ic42, rs42, 0⟩ (.node .leaf 43 ⟨ic43, rs43, 0⟩ .leaf)) 44 ⟨ic44, rs44, 0⟩ (.node (.node .leaf 45 ⟨ic45, rs45, 0⟩ .leaf) 46 ⟨ic46, rs46, 0⟩ (.node .leaf 47 ⟨ic47, rs47, 0⟩ .leaf))))) 48 ⟨ic48, rs48, 0⟩ (.node (.node (.node (.node (.node .leaf 49 ⟨ic49, rs49, 0⟩ .leaf) 53 ⟨ic53, rs53, 0⟩ (.node .leaf 54 ⟨ic54, rs54, 0⟩ .leaf)) 56 ⟨ic56, rs56, 0⟩ (.node (.node .leaf 57 ⟨ic57, rs57, 0⟩ .leaf) 59 ⟨ic59, rs59, 0⟩ (.node .leaf 60 ⟨ic60, rs60, 0⟩ .leaf))) 61 ⟨ic61, rs61, 0⟩ (.node (.node (.node .leaf 62 ⟨ic62, rs62, 0⟩ .leaf) 63 ⟨ic63, rs63, 0⟩ (.node .leaf 64 ⟨ic64, rs64, 0⟩ .leaf)) 65 ⟨ic65, rs65, 0⟩ (.node (.node .leaf 66 ⟨ic66, rs66, 0⟩ .leaf) 67 ⟨ic67, rs67, 0⟩ (.node .leaf 68 ⟨ic68, rs68, 0⟩ .leaf)))) 69 ⟨ic69, rs69, 0⟩ (.node (.node (.node (.node .leaf 70 ⟨ic70, rs70, 0⟩ .leaf) 71 ⟨ic71, rs71, 0⟩ (.node .leaf 72 ⟨ic72, rs72, 0⟩ .leaf)) 73 ⟨ic73, rs73, 0⟩ (.node (.node .leaf 74 ⟨ic74, rs74, 0⟩ .leaf) 75 ⟨ic75, rs75, 0⟩ (.node .leaf 76 ⟨ic76, rs76, 1⟩ .leaf))) 77 ⟨ic77, rs77, 2⟩ (.node (.node (.node .leaf 78 ⟨ic78, rs78, 0⟩ .leaf) 79 ⟨ic79, rs79, 0⟩ (.node .leaf 80 ⟨ic80, rs80, 1⟩ .leaf)) 81 ⟨ic81, rs81, 2⟩ (.node (.node .leaf 82 ⟨ic82, rs82, 0⟩ .leaf) 83 ⟨ic83, rs83, 0⟩ (.node .leaf 84 ⟨ic84, rs84, 0⟩ .leaf)))))) 85 ⟨ic85, rs85, 0⟩ (.node (.node (.node (.node (.node (.node .leaf 86 ⟨ic86, rs86, 0⟩ .leaf) 87 ⟨ic87, rs87, 0⟩ (.node .leaf 88 ⟨ic88, rs88, 0⟩ .leaf)) 89 ⟨ic89, rs89, 0⟩ (.node (.node .leaf 90 ⟨ic90, rs90, 0⟩ .leaf) 91 ⟨ic91, rs91, 0⟩ (.node .leaf 92 ⟨ic92, rs92, 0⟩ .leaf))) 94 ⟨ic94, rs94, 0⟩ (.node (.node (.node .leaf 95 ⟨ic95, rs95, 0⟩ .leaf) 96 ⟨ic96, rs96, 0⟩ (.node .leaf 97 ⟨ic97, rs97, 0⟩ .leaf)) 98 ⟨ic98, rs98, 0⟩ (.node (.node .leaf 99 ⟨ic99, rs99, 0⟩ .leaf) 100 ⟨ic100, rs100, 0⟩ (.node .leaf 101 ⟨ic101, rs101, 0⟩ .leaf)))) 102 ⟨ic102, rs102, 1⟩ (.node (.node (.node (.node .leaf 103 ⟨ic103, rs103, 0⟩ .leaf) 104 ⟨ic104, rs104, 0⟩ (.node .leaf 105 ⟨ic105, rs105, 0⟩ .leaf)) 106 ⟨ic106, rs106, 0⟩ (.node (.node .leaf 107 ⟨ic107, rs107, 0⟩ .leaf) 108 ⟨ic108, rs108, 1⟩ (.node .leaf 109 ⟨ic109, rs109, 0⟩ .leaf))) 110 ⟨ic110, rs110, 0⟩ (.node (.node (.node .leaf 111 ⟨ic111, rs111, 0⟩ .leaf) 112 ⟨ic112, rs112, 0⟩ (.node .leaf 113 ⟨ic113, rs113, 1⟩ .leaf)) 114 ⟨ic114, rs114, 0⟩ (.node (.node .leaf 115 ⟨ic115, rs115, 0⟩ .leaf) 116 ⟨ic116, rs116, 0⟩ (.node .leaf 117 ⟨ic117, rs117, 0⟩ .leaf))))) 118 ⟨ic118, rs118, 1⟩ (.node (.node (.node (.node (.node .leaf 119 ⟨ic119, rs119, 0⟩ .leaf) 120 ⟨ic120, rs120, 0⟩ (.node .leaf 121 ⟨ic121, rs121, 1⟩ .leaf)) 122 ⟨ic122, rs122, 1⟩ (.node (.node .leaf 123 ⟨ic123, rs123, 1⟩ .leaf) 124 ⟨ic124, rs124, 1⟩ (.node .leaf 125 ⟨ic125, rs125, 1⟩ .leaf))) 126 ⟨ic126, rs126, 1⟩ (.node (.node (.node .leaf 127 ⟨ic127, rs127, 1⟩ .leaf) 128 ⟨ic128, rs128, 1⟩ (.node .leaf 129 ⟨ic129, rs129, 1⟩ .leaf)) 130 ⟨ic130, rs130, 0⟩ (.node (.node .leaf 131 ⟨ic131, rs131, 0⟩ .leaf) 132 ⟨ic132, rs132, 1⟩ (.node .leaf 133 ⟨ic133, rs133, 1⟩ .leaf)))) 134 ⟨ic134, rs134, 1⟩ (.node (.node (.node (.node .leaf 135 ⟨ic135, rs135, 1⟩ .leaf) 136 ⟨ic136, rs136, 1⟩ (.node .leaf 137 ⟨ic137, rs137, 1⟩ .leaf)) 138 ⟨ic138, rs138, 1⟩ (.node (.node .leaf 139 ⟨ic139, rs139, 1⟩ .leaf) 140 ⟨ic140, rs140, 1⟩ (.node .leaf 141 ⟨ic141, rs141, 1⟩ .leaf))) 142 ⟨ic142, rs142, 1⟩ (.node (.node (.node .leaf 143 ⟨ic143, rs143, 1⟩ .leaf) 144 ⟨ic144, rs144, 1⟩ (.node .leaf 145 ⟨ic145, rs145, 1⟩ .leaf)) 146 ⟨ic146, rs146, 1⟩ (.node (.node .leaf 147 ⟨ic147, rs147, 1⟩ .leaf) 148 ⟨ic148, rs148, 1⟩ (.node .leaf 149 ⟨ic149, rs149, 1⟩ .leaf)))))))
theorem tr_ok : TOK Tryz.prog tr.get := Tr.ok ⟨⟨⟨⟨⟨⟨⟨trivial, ⟨_, _, fn17⟩, trivial⟩, ⟨_, _, fn18⟩, ⟨trivial, ⟨_, _, fn19⟩, trivial⟩⟩, ⟨_, _, fn20⟩, ⟨⟨trivial, ⟨_, _, fn21⟩, trivial⟩, ⟨_, _, fn22⟩, ⟨trivial, ⟨_, _, fn23⟩, trivial⟩⟩⟩, ⟨_, _, fn24⟩, ⟨⟨⟨trivial, ⟨_, _, fn25⟩, trivial⟩, ⟨_, _, fn26⟩, ⟨trivial, ⟨_, _, fn27⟩, trivial⟩⟩, ⟨_, _, fn28⟩, ⟨⟨trivial, ⟨_, _, fn29⟩, trivial⟩, ⟨_, _, fn30⟩, ⟨trivial, ⟨_, _, fn31⟩, trivial⟩⟩⟩⟩, ⟨_, _, fn32⟩, ⟨⟨⟨⟨trivial, ⟨_, _, fn33⟩, trivial⟩, ⟨_, _, fn34⟩, ⟨trivial, ⟨_, _, fn35⟩, trivial⟩⟩, ⟨_, _, fn36⟩, ⟨⟨trivial, ⟨_, _, fn37⟩, trivial⟩, ⟨_, _, fn38⟩, ⟨trivial, ⟨_, _, fn39⟩, trivial⟩⟩⟩, ⟨_, _, fn40⟩, ⟨⟨⟨trivial, ⟨_, _, fn41⟩, trivial⟩, ⟨_, _, fn42⟩, ⟨trivial, ⟨_, _, fn43⟩, trivial⟩⟩, ⟨_, _, fn44⟩, ⟨⟨trivial, ⟨_, _, fn45⟩, trivial⟩, ⟨_, _, fn46⟩, ⟨trivial, ⟨_, _, fn47⟩, trivial⟩⟩⟩⟩⟩, ⟨_, _, fn48⟩, ⟨⟨⟨⟨⟨trivial, ⟨_, _, fn49⟩, trivial⟩, ⟨_, _, fn53⟩, ⟨trivial, ⟨_, _, fn54⟩, trivial⟩⟩, ⟨_, _, fn56⟩, ⟨⟨trivial, ⟨_, _, fn57⟩, trivial⟩, ⟨_, _, fn59⟩, ⟨trivial, ⟨_, _, fn60⟩, trivial⟩⟩⟩, ⟨_, _, fn61⟩, ⟨⟨⟨trivial, ⟨_, _, fn62⟩, trivial⟩, ⟨_, _, fn63⟩, ⟨trivial, ⟨_, _, fn64⟩, trivial⟩⟩, ⟨_, _, fn65⟩, ⟨⟨trivial, ⟨_, _, fn66⟩, trivial⟩, ⟨_, _, fn67⟩, ⟨trivial, ⟨_, _, fn68⟩, trivial⟩⟩⟩⟩, ⟨_, _, fn69⟩, ⟨⟨⟨⟨trivial, ⟨_, _, fn70⟩, trivial⟩, ⟨_, _, fn71⟩, ⟨trivial, ⟨_, _, fn72⟩, trivial⟩⟩, ⟨_, _, fn73⟩, ⟨⟨trivial, ⟨_, _, fn74⟩, trivial⟩, ⟨_, _, fn75⟩, ⟨trivial, ⟨_, _, fn76⟩, trivial⟩⟩⟩, ⟨_, _, fn77⟩, ⟨⟨⟨trivial, ⟨_, _, fn78⟩, trivial⟩, ⟨_, _, fn79⟩, ⟨trivial, ⟨_, _, fn80⟩, trivial⟩⟩, ⟨_, _, fn81⟩, ⟨⟨trivial, ⟨_, _, fn82⟩, trivial⟩, ⟨_, _, fn83⟩, ⟨trivial, ⟨_, _, fn84⟩, trivial⟩⟩⟩⟩⟩⟩, ⟨_, _, fn85⟩, ⟨⟨⟨⟨⟨⟨trivial, ⟨_, _, fn86⟩, trivial⟩, ⟨_, _, fn87⟩, ⟨trivial, ⟨_, _, fn88⟩, trivial⟩⟩, ⟨_, _, fn89⟩, ⟨⟨trivial, ⟨_, _, fn90⟩, trivial⟩, ⟨_, _, fn91⟩, ⟨trivial, ⟨_, _, fn92⟩, trivial⟩⟩⟩, ⟨_, _, fn94⟩, ⟨⟨⟨trivial, ⟨_, _, fn95⟩, trivial⟩, ⟨_, _, fn96⟩, ⟨trivial, ⟨_, _, fn97⟩, trivial⟩⟩, ⟨_, _, fn98⟩, ⟨⟨trivial, ⟨_, _, fn99⟩, trivial⟩, ⟨_, _, fn100⟩, ⟨trivial, ⟨_, _, fn101⟩, trivial⟩⟩⟩⟩, ⟨_, _, fn102⟩, ⟨⟨⟨⟨trivial, ⟨_, _, fn103⟩, trivial⟩, ⟨_, _, fn104⟩, ⟨trivial, ⟨_, _, fn105⟩, trivial⟩⟩, ⟨_, _, fn106⟩, ⟨⟨trivial, ⟨_, _, fn107⟩, trivial⟩, ⟨_, _, fn108⟩, ⟨trivial, ⟨_, _, fn109⟩, trivial⟩⟩⟩, ⟨_, _, fn110⟩, ⟨⟨⟨trivial, ⟨_, _, fn111⟩, trivial⟩, ⟨_, _, fn112⟩, ⟨trivial, ⟨_, _, fn113⟩, trivial⟩⟩, ⟨_, _, fn114⟩, ⟨⟨trivial, ⟨_, _, fn115⟩, trivial⟩, ⟨_, _, fn116⟩, ⟨trivial, ⟨_, _, fn117⟩, trivial⟩⟩⟩⟩⟩, ⟨_, _, fn118⟩, ⟨⟨⟨⟨⟨trivial, ⟨_, _, fn119⟩, trivial⟩, ⟨_, _, fn120⟩, ⟨trivial, ⟨_, _, fn121⟩, trivial⟩⟩, ⟨_, _, fn122⟩, ⟨⟨trivial, ⟨_, _, fn123⟩, trivial⟩, ⟨_, _, fn124⟩, ⟨trivial, ⟨_, _, fn125⟩, trivial⟩⟩⟩, ⟨_, _, fn126⟩, ⟨⟨⟨trivial, ⟨_, _, fn127⟩, trivial⟩, ⟨_, _, fn128⟩, ⟨trivial, ⟨_, _, fn129⟩, trivial⟩⟩, ⟨_, _, fn130⟩, ⟨⟨trivial, ⟨_, _, fn131⟩, trivial⟩, ⟨_, _, fn132⟩, ⟨trivial, ⟨_, _, fn133⟩, trivial⟩⟩⟩⟩, ⟨_, _, fn134⟩, ⟨⟨⟨⟨trivial, ⟨_, _, fn135⟩, trivial⟩, ⟨_, _, fn136⟩, ⟨trivial, ⟨_, _, fn137⟩, trivial⟩⟩, ⟨_, _, fn138⟩, ⟨⟨trivial, ⟨_, _, fn139⟩, trivial⟩, ⟨_, _, fn140⟩, ⟨trivial, ⟨_, _, fn141⟩, trivial⟩⟩⟩, ⟨_, _, fn142⟩, ⟨⟨⟨trivial, ⟨_, _, fn143⟩, trivial⟩, ⟨_, _, fn144⟩, ⟨trivial, ⟨_, _, fn145⟩, trivial⟩⟩, ⟨_, _, fn146⟩, ⟨⟨trivial, ⟨_, _, fn147⟩, trivial⟩, ⟨_, _, fn148⟩, ⟨trivial, ⟨_, _, fn149⟩, trivial⟩⟩⟩⟩⟩⟩⟩

/-! ### Heaps, by reckoning -/
def fxB (k : Int) (b now : Nat) : Bool := if k = 0 then decide (less b now = 0) else decide (b &&& now ≠ 0)
def goX : List (Int × Nat) → Nat → Nat → Nat → Nat
  | [], _, _, acc => acc
  | x :: r, i, now, acc => fN (if !now.testBit i && fxB x.1 x.2 now then acc ||| 2 ^ i else acc) fun acc => goX r (i + 1) now acc
def kbs (J : List Lg) : List (Int × Nat) := J.map fun p => (p.1, setB p.2.1)
theorem kbs_drop {J : List Lg} {i : Nat} (h : i < J.length) : (kbs J).drop i = (kd J i, (byB J).getD i 0) :: (kbs J).drop (i + 1) := by
  have h1 : i < (kbs J).length := by simpa [kbs] using h
  have hk : (kbs J)[i]? = some (kd J i, (byB J).getD i 0) := by
    unfold kbs kd byB
    simp [List.getD_eq_getElem?_getD, h]
  obtain ⟨h2, h3⟩ := List.getElem?_eq_some_iff.1 hk
  rw [List.drop_eq_getElem_cons h1, h3]
theorem goX_eq {J : List Lg} {now : Nat} : ∀ {n i : Nat}, i + n = J.length → goX ((kbs J).drop i) i now (newTo J (byB J) now i) = newTo J (byB J) now J.length
  | 0, i, h => by
    have : (kbs J).drop i = [] := by rw [List.drop_eq_nil_iff]; simp [kbs]; omega
    rw [this, show i = J.length by omega]
    rfl
  | n + 1, i, h => by
    rw [kbs_drop (by omega), goX, fN_eq]
    have e : (if !now.testBit i && fxB (kd J i) ((byB J).getD i 0) now then newTo J (byB J) now i ||| 2 ^ i else newTo J (byB J) now i) = newTo J (byB J) now (i + 1) := rfl
    rw [e]
    exact goX_eq (n := n) (by omega)
def rX (L : List (Int × Nat)) : Nat → Nat → Nat
  | 0, g => g
  | r + 1, g => fN (goX L 0 g g) fun g => rX L r g
theorem rX_eq {J : List Lg} {s : Nat} : ∀ {n r : Nat}, rX (kbs J) n (gk J (byB J) s r) = gk J (byB J) s (r + n)
  | 0, r => rfl
  | n + 1, r => by
    rw [rX, fN_eq]
    have h := goX_eq (J := J) (now := gk J (byB J) s r) (n := J.length) (i := 0) (by omega)
    rw [List.drop_zero] at h
    have e : newTo J (byB J) (gk J (byB J) s r) 0 = gk J (byB J) s r := rfl
    rw [e] at h
    rw [h]
    have := rX_eq (J := J) (s := s) (n := n) (r := r + 1)
    rw [show r + (n + 1) = r + 1 + n by omega]
    exact this
theorem wr_neg {J : List Lg} {B : List Nat} {keys j : Nat} : ∀ {r : Nat}, wr J B keys r j < 0 ↔ j < J.length ∧ (gk J B keys r).testBit j = false
  | 0 => by
    simp only [wr, gk]
    split
    · rename_i h; simp [h]
    · rename_i h; simp at h ⊢; intro h1 ; simp [h h1]
  | r + 1 => by
    have ih := wr_neg (J := J) (B := B) (keys := keys) (j := j) (r := r)
    have hb : (gk J B keys (r + 1)).testBit j = ((gk J B keys r).testBit j || (decide (j < J.length) && frB J B j (gk J B keys r))) := newTo_bit
    rw [hb]
    simp only [wr]
    split
    · rename_i h
      obtain ⟨h1, h2⟩ := h
      simp at h2
      simp [h1, h2]
      omega
    · rename_i h
      rw [ih]
      constructor
      · rintro ⟨h1, h2⟩
        refine ⟨h1, ?_⟩
        simp [h1, h2] at h ⊢
        exact h
      · rintro ⟨h1, h2⟩
        simp at h2
        exact ⟨h1, h2.1⟩
theorem left_eq {J : List Lg} {s : Nat} : left J s = less (2 ^ J.length - 1) (gk J (byB J) s J.length) := by
  apply Nat.eq_of_testBit_eq
  intro j
  unfold left
  rw [leftTo_bit, less_bit, Nat.testBit_two_pow_sub_one]
  by_cases h : j < J.length
  · cases hg : (gk J (byB J) s J.length).testBit j with
    | false => simp [h, wr_neg, hg]
    | true => simp [h, wr_neg, hg]
  · simp [h]
def goE (L : List (Int × Nat)) (N full : Nat) : Nat → Nat → List (V × V)
  | 0, _ => []
  | n + 1, s => fN (less full (rX L N s)) fun l => match l with | 0 => goE L N full n (s + 1) | l + 1 => (.agg [.i .u16 s], .i .u16 (l + 1 : Nat)) :: goE L N full n (s + 1)
theorem goE_eq {J : List Lg} : ∀ {n s : Nat}, goE (kbs J) J.length (2 ^ J.length - 1) n s = (mpV (((List.range' s n).map (entS (left J))).filter (goodE (left J)))).map (·.2)
  | 0, s => rfl
  | n + 1, s => by
    rw [goE, fN_eq]
    have h := rX_eq (J := J) (s := s) (n := J.length) (r := 0)
    have e : gk J (byB J) s 0 = s := rfl
    rw [e, Nat.zero_add] at h
    rw [h, ← left_eq, List.range'_succ, List.map_cons]
    have ih := goE_eq (J := J) (n := n) (s := s + 1)
    cases hl : left J s with
    | zero =>
      rw [List.filter_cons_of_neg (by simp [goodE, entS, hl])]
      exact ih
    | succ l =>
      rw [List.filter_cons_of_pos (by simp [goodE, entS, hl])]
      simp only [mpV, List.map_cons] at ih ⊢
      rw [ih]
      simp [entS, hl]

def decI : List V → Option (List Int)
  | [] => some []
  | .i .i64 a :: r => match decI r with
    | some l => fI a fun a => some (a :: l)
    | none => none
  | _ => none
theorem decI_ok : ∀ {l : List V} {D : List Int}, decI l = some D → l = ints D
  | [], D, h => by simp only [decI, Option.some.injEq] at h; subst h; rfl
  | x :: r, D, h => by
    unfold decI at h
    split at h
    · cases h; simp_all
    · rename_i a r' he
      cases he
      split at h
      · rename_i l hl
        simp only [fI_eq, Option.some.injEq] at h
        subst h
        rw [decI_ok hl]; rfl
      · cases h
    · cases h
def decJ : List V → Option (List Lg)
  | [] => some []
  | .i .i64 a :: .ss b n f :: r => match decJ r, decI b with
    | some l, some b => if n = b.length then fI a fun a => some ((a, b, f) :: l) else none
    | _, _ => none
  | _ => none
theorem decJ_ok : ∀ {l : List V} {J : List Lg}, decJ l = some J → l = lgV J
  | [], D, h => by simp only [decJ, Option.some.injEq] at h; subst h; rfl
  | x :: r, D, h => by
    unfold decJ at h
    split at h
    · cases h; simp_all
    · rename_i a b n f r' he
      cases he
      split at h
      · rename_i l b' hl hb
        split at h
        · rename_i hn
          simp only [fI_eq, Option.some.injEq] at h
          subst h
          rw [decJ_ok hl, decI_ok hb, hn]; rfl
        · cases h
      · cases h
    · cases h
def okJ (J : List Lg) : Bool := decide (1 ≤ J.length) && decide (J.length ≤ 12) && J.all fun p => (p.2.1.all fun x => decide (0 ≤ x) && decide (x < 12)) && decide (p.2.1.length ≤ 1000000)
theorem okJ_ok {J : List Lg} (h : okJ J = true) : JOK J := by
  unfold okJ at h
  simp only [Bool.and_eq_true, decide_eq_true_eq, List.all_eq_true] at h
  exact ⟨h.1.1, h.1.2, fun p hp => ⟨fun x hx => (h.2 p hp).1 x hx, (h.2 p hp).2⟩⟩
def orcS : FuncId → List V → Option V := fun f args =>
  match Nat.beq f 96 with
  | true => match args with
    | [.agg [.ss d m fb]] => match decJ d with
      | some J => match m == J.length && okJ J with
        | true => fV (hpV J fb (byB J) (J.length == 0) (.sm (goE (kbs J) J.length (2 ^ J.length - 1) (2 ^ J.length) 0))) fun v => some v
        | false => none
      | none => none
    | _ => none
  | false => none
theorem orcS_ok : OrcOK Tryz.prog orcS := by
  intro f args v h
  unfold orcS at h
  split at h
  · rename_i hf
    have := Nat.eq_of_beq_eq_true hf
    subst this
    split at h
    · rename_i d m fb
      split at h
      · rename_i J h1
        split at h
        · rename_i hc
          simp only [Bool.and_eq_true, beq_iff_eq] at hc
          obtain ⟨rfl, c2⟩ := hc
          have e := decJ_ok h1
          subst e
          have hr := goE_eq (J := J) (n := 2 ^ J.length) (s := 0)
          rw [← List.range_eq_range'] at hr
          rw [fV_eq, hr] at h
          cases h
          exact newHeap96 (okJ_ok c2) rfl
        · cases h
      · cases h
    · cases h
  · cases h
def oiS : Oi := fun f first cap _ =>
  match Nat.beq f 115 with
  | true => match first, cap with
    | [], [.sp [.sp [.ss d m fb, b, st] 0] 0] => match decJ d with
      | some J => match m == J.length && Nat.ble m 12 with
        | true => some ((List.range (2 ^ J.length)).map fun (i : Nat) => [V.i .u16 (i : Int)], fun _ => true)
        | false => none
      | none => none
    | _, _ => none
  | false => none
theorem oiS_ok : ∀ f a b σ xs pre, oiS f a b σ = some (xs, pre) → ItT f a b xs.length (fun i x _ g => xs[i]? = some x ∧ g = []) (fun σ => pre σ = true) := by
  intro f a b σ xs pre h
  unfold oiS at h
  split at h
  · rename_i hf
    have := Nat.eq_of_beq_eq_true hf
    subst this
    split at h
    · rename_i d m fb b st
      split at h
      · rename_i J h1
        split at h
        · rename_i hc
          simp only [Bool.and_eq_true, beq_iff_eq, Nat.ble_eq] at hc
          obtain ⟨rfl, c2⟩ := hc
          have e := decJ_ok h1
          subst e
          cases h
          have := sets_itF (J := J) (f := fb) (b := b) (st := st) c2 rfl
          rw [show ((List.range (2 ^ J.length)).map fun (i : Nat) => [V.i .u16 (i : Int)]).length = 2 ^ J.length by simp]
          refine this.imp (fun i x σ g hi hx => ?_) (fun _ _ => trivial)
          obtain ⟨rfl, rfl⟩ := hx
          refine ⟨?_, rfl⟩
          simp [hi]
        · cases h
      · cases h
    · cases h
  · cases h
def runY (f : FuncId) (args : List V) : Option (V × List O) := (callsX tr.get orcS oiS 3000 20).1 f args []
theorem runY_ok {f : FuncId} {args : List V} {v : V} (h : runY f args = some (v, [])) : FSpec Tryz.prog f args [] v [] := run_sound tr_ok orcS_ok mixed itT_ok oiS_ok h
end Go.Ab
