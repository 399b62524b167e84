import Derived.Test.YthcbimgdbhkikaaS3
import Derived.Test.YthcbimgdbhkikaaS2
/-! S4: made of UG UH UI UJ UK UL -/
section
/- CheckCut, of the program and of the reference. -/
set_option linter.unusedVariables false
set_option linter.unusedSimpArgs false
set_option maxHeartbeats 4000000
namespace Go.Ab
open Go Go.Proofs

/-- Logs, as they lie. -/
def lsV : List (Int × Int) → List V
  | [] => []
  | p :: r => .i .i64 p.1 :: .i .i64 p.2 :: lsV r
@[simp] theorem lsV_len : ∀ {l : List (Int × Int)}, (lsV l).length = l.length * 2
  | [] => rfl
  | p :: r => by simp [lsV, lsV_len (l := r)]; omega
theorem lsV_drop : ∀ {l : List (Int × Int)} {i : Nat}, (lsV l).drop (i * 2) = lsV (l.drop i)
  | [], i => by simp [lsV]
  | p :: r, 0 => by simp
  | p :: r, i + 1 => by
    rw [show (i + 1) * 2 = i * 2 + 1 + 1 by omega]
    simp only [lsV, List.drop_succ_cons]
    exact lsV_drop
theorem lsV_append {l m : List (Int × Int)} : lsV (l ++ m) = lsV l ++ lsV m := by
  induction l with
  | nil => rfl
  | cons p r ih => simp [lsV, ih]
theorem lsV_get {l : List (Int × Int)} {i : Nat} {p : Int × Int} (h : l[i]? = some p) : ((lsV l).drop (i * 2)).take 2 = [.i .i64 p.1, .i .i64 p.2] ∧ (lsV l)[i * 2]? = some (.i .i64 p.1) ∧ (lsV l)[i * 2 + 1]? = some (.i .i64 p.2) := by
  have hlt := (List.getElem?_eq_some_iff.1 h).1
  have hd : l.drop i = p :: l.drop (i + 1) := by
    rw [List.drop_eq_getElem_cons hlt]
    rw [List.getElem?_eq_getElem hlt] at h
    rw [Option.some.inj h]
  have e : (lsV l).drop (i * 2) = .i .i64 p.1 :: .i .i64 p.2 :: lsV (l.drop (i + 1)) := by rw [lsV_drop, hd]; rfl
  refine ⟨by rw [e]; rfl, ?_, ?_⟩
  · have := congrArg (·[0]?) e
    simpa [List.getElem?_drop] using this
  · have := congrArg (·[1]?) e
    simpa [List.getElem?_drop] using this
@[simp] theorem pure_lsV : ∀ {l : List (Int × Int)}, pureL (lsV l) = true
  | [] => rfl
  | p :: r => by simp [lsV, pure_lsV (l := r)]
abbrev slL (l : List (Int × Int)) (f : Bool) : V := .ss (lsV l) l.length f
@[simp] theorem pure_slL {l : List (Int × Int)} {f : Bool} : (slL l f).pure = true := by simp [slL]

theorem indexFuncL {l : List (Int × Int)} {full : Bool} {g : FuncId} {first cap : List V} {p : Int × Int → Bool} (hg : ∀ x, FSpec Try.prog g (first ++ [.agg [.i .i64 x.1, .i .i64 x.2]] ++ cap) [] (.b (p x)) []) (hl : (l.length : Int) < 1000000000) :
    FSpec Try.prog 81 [slL l full, .f (.func g) first cap] [] (.i .i64 (match l.findIdx? p with | some i => (i : Int) | none => -1)) [] := by
  refine fn81.spec0 mixed noIt_ok ?_
  rw [ic81]
  refine ab_seq_k fun K1 h1 => ?_
  simp
  refine h1 _ _ _ ?_
  clear h1 K1
  refine ab_seq_k fun K2 h2 => ?_
  refine ab_seq_k fun K3 h3 => ?_
  simp
  refine h3 _ _ _ ?_
  clear h3 K3
  refine ab_block_k fun K4 h4 => ?_
  refine ab_loop_k (fun m env σ => ∃ i : Nat, i + m = l.length ∧ (∀ (j : Nat) (x : Int × Int), j < i → l[j]? = some x → p x = false) ∧ env = [(0, slL l full), (1, .f (.func g) first cap), (7, .i .i64 l.length), (8, .i .i64 i)] ∧ σ = []) l.length ⟨0, by omega, by simp, by simp, rfl⟩ ?_
  rintro m env σ ⟨i, hi, hprev, rfl, rfl⟩ K5 h5
  rw [ic81_0]
  refine ab_seq_k fun K6 h6 => ?_
  simp
  refine h6 _ _ _ ?_
  clear h6 K6
  refine ab_seq_k fun K7 h7 => ?_
  refine ab_cond_of rfl (fun hc => ?_) (fun hc => ?_)
  · have hlt : i < l.length := by simp at hc; omega
    have hget : l[i]? = some l[i] := List.getElem?_eq_getElem hlt
    obtain ⟨e1, -, -⟩ := lsV_get hget
    have hmem := List.getElem_mem hlt
    generalize hx : l[i] = x at *
    have hle : i * 2 + 2 ≤ l.length * 2 := by omega
    simp
    refine h7 _ _ _ ?_
    refine ab_seq_k fun K8 h8 => ?_
    refine ab_block_k fun K9 h9 => ?_
    refine ab_seq_k fun K10 h10 => ?_
    simp
    refine h10 _ _ _ ?_
    refine ab_seq_k fun K11 h11 => ?_
    simp [hlt, hle, e1]
    refine callK_of (by simpa using hg x) ?_
    simp
    refine h11 _ _ _ ?_
    refine ab_cond_of rfl (fun hp => ?_) (fun hp => ?_)
    · refine ab_seq_k fun K12 h12 => ?_
      simp
      refine h12 _ _ _ ?_
      have : l.findIdx? p = some i := by
        rw [List.findIdx?_eq_some_iff_getElem]
        exact ⟨hlt, by rw [hx]; exact hp, fun j hj => by have := hprev j _ hj (List.getElem?_eq_getElem (by omega)); simpa using this⟩
      simp [this]
      exact fin_of 1 (by simp [rs81])
    · simp
      refine h9 _ _ _ ?_
      refine h8 _ _ _ ?_
      simp [wrap64 (x := (i : Int) + 1) (by omega) (by omega)]
      refine h5 _ _ _ (again (m - 1) (by omega) ⟨i + 1, by omega, fun j y hj hy => ?_, by simp, rfl⟩)
      by_cases hji : j = i
      · subst hji; rw [hget] at hy; cases hy; exact hp
      · exact hprev j y (by omega) hy
  · have hlt : ¬ i < l.length := by simp at hc; omega
    simp
    refine h4 _ _ _ ?_
    refine h2 _ _ _ ?_
    refine ab_seq_k fun K8 h8 => ?_
    simp
    refine h8 _ _ _ ?_
    have : l.findIdx? p = none := by
      rw [List.findIdx?_eq_none_iff]
      intro x hx
      obtain ⟨j, hj⟩ := List.mem_iff_getElem?.1 hx
      have := (List.getElem?_eq_some_iff.1 hj).1
      exact hprev j x (by omega) hj
    simp [this]
    exact fin_of 1 (by simp [rs81])

theorem containsFuncL {l : List (Int × Int)} {full : Bool} {g : FuncId} {first cap : List V} {p : Int × Int → Bool} (hg : ∀ x, FSpec Try.prog g (first ++ [.agg [.i .i64 x.1, .i .i64 x.2]] ++ cap) [] (.b (p x)) []) (hl : (l.length : Int) < 1000000000) :
    FSpec Try.prog 60 [slL l full, .f (.func g) first cap] [] (.b (l.any p)) [] := by
  refine fn60.spec0 mixed noIt_ok ?_
  rw [ic60]
  refine ab_seq_k fun K1 h1 => ?_
  simp
  refine h1 _ _ _ ?_
  refine ab_seq_k fun K2 h2 => ?_
  simp
  refine callK_of (indexFuncL hg hl) ?_
  simp
  refine h2 _ _ _ ?_
  simp
  refine fin_of 1 ?_
  simp [rs60]
  cases h : l.findIdx? p with
  | none =>
    rw [List.findIdx?_eq_none_iff] at h
    have : l.any p = false := by rw [List.any_eq_false]; intro x hx; simp [h x hx]
    simpa using this
  | some i =>
    rw [List.findIdx?_eq_some_iff_getElem] at h
    obtain ⟨h1, h2, -⟩ := h
    have : l.any p = true := by rw [List.any_eq_true]; exact ⟨_, List.getElem_mem h1, h2⟩
    simpa using this

theorem notLog_ok {t b : List Int} {ft fb : Bool} {kn : Kn} {x y : Int} (ht : (t.length : Int) < 1000000000) : FSpec Try.prog 61 [.agg [.i .i64 x, .i .i64 y], .sp [yardV t ft b fb kn] 0] [] (.b (!isLog t.length x y)) [] := by
  refine fn61.spec0 mixed noIt_ok ?_
  rw [ic61]
  refine ab_seq_k fun K1 h1 => ?_
  simp
  refine h1 _ _ _ ?_
  refine ab_seq_k fun K2 h2 => ?_
  simp
  refine callK_of (FSpec.frame (isLog_ok (t := t) (b := b) (ft := ft) (fb := fb) (kn := kn) (x := x) (y := y) ht) (by simp) rfl) ?_
  simp
  refine h2 _ _ _ ?_
  simp
  exact fin_of 1 (by simp [rs61])

/-! ### What a cutting scales -/
def ordered : Int → List (Int × Int) → Bool
  | _, [] => true
  | next, p :: r => decide (next ≤ p.1) && ordered p.2 r
def sumOf (t b : List Int) (r : Ru) : List (Int × Int) → Int
  | [] => 0
  | p :: l => scaleP t b r p.1 p.2 + sumOf t b r l
def cutP (t b : List Int) (r : Ru) (l : List (Int × Int)) : Int × Int :=
  if openE t b [r] ≠ 0 then (0, openE t b [r]) else if 60 < l.length then (0, 6) else if l.all (fun p => isLog t.length p.1 p.2) = false then (0, 2) else
  if ordered 0 l = false then (0, 16) else if l.any (fun p => decide (scaleP t b r p.1 p.2 = 0)) = true then (0, 18) else (sumOf t b r l, 0)

theorem sumOf_append {t b : List Int} {r : Ru} {l m : List (Int × Int)} : sumOf t b r (l ++ m) = sumOf t b r l + sumOf t b r m := by
  induction l with
  | nil => simp [sumOf]
  | cons p l ih => simp [sumOf, ih]; omega
theorem sumOf_le {t b : List Int} {r : Ru} (hr : RuB r) (hv : ∀ x ∈ t, 0 ≤ x ∧ x ≤ 60) : ∀ {l : List (Int × Int)}, (∀ p ∈ l, isLog t.length p.1 p.2 = true) → 0 ≤ sumOf t b r l ∧ sumOf t b r l ≤ l.length * 216000
  | [], _ => by simp [sumOf]
  | p :: l, h => by
    obtain ⟨h1, h2⟩ := sumOf_le (b := b) hr hv (l := l) (fun q hq => h q (List.mem_cons_of_mem _ hq))
    obtain ⟨a1, a2, a3⟩ := isLog_iff.1 (h p (List.mem_cons_self ..))
    have h3 := scN_bounds (t := t) (b := b) hr hv (i := p.1.toNat) (j := p.2.toNat)
    unfold scN at h3
    rw [show ((p.1.toNat : Nat) : Int) = p.1 by omega, show ((p.2.toNat : Nat) : Int) = p.2 by omega] at h3
    simp only [sumOf, List.length_cons]
    omega
theorem ordered_append {p : Int × Int} : ∀ {l : List (Int × Int)} {next : Int}, ordered next (l ++ [p]) = (ordered next l && decide ((match l.getLast? with | some q => q.2 | none => next) ≤ p.1))
  | [], next => by
    show (decide (next ≤ p.1) && true) = (true && decide (next ≤ p.1))
    rw [Bool.and_true, Bool.true_and]
  | q :: l, next => by
    simp only [List.cons_append, ordered, ordered_append (l := l) (next := q.2), Bool.and_assoc]
    cases l with
    | nil => rfl
    | cons q' l' =>
      rw [List.getLast?_cons_cons]
      have : ∃ x, (q' :: l').getLast? = some x := ⟨_, List.getLast?_eq_some_getLast (by simp)⟩
      obtain ⟨x, hx⟩ := this
      rw [hx]
end Go.Ab
end

section
/- CheckCut: the walks. -/
set_option linter.unusedVariables false
set_option linter.unusedSimpArgs false
set_option maxHeartbeats 4000000
namespace Go.Ab
open Go Go.Proofs

def PureO (o : O) : Prop := ∃ ver cells, o = .row ver cells ∧ pureL cells = true
theorem frzS_pureL {k : Nat} {base g : List O} (h : ∀ o ∈ base, PureO o) : frzS (k + 1) base.length (base ++ g) = base := by
  rw [frzS, List.take_left]
  have : base.map (frzO (k + 1) base.length (base ++ g)) = base.map id := List.map_congr_left (fun o ho => by
    obtain ⟨ver, cells, rfl, hp⟩ := h o ho
    exact frzO_pure hp)
  rw [this, List.map_id]

def hpC (t b : List Int) (ft fb : Bool) (r : Ru) (y : V) : List O := [.row 0 [sl t ft, sl b fb], .row 0 r.cells, .row 0 [y]]
theorem hpC_pure {t b ft fb r y} (hy : V.pure y = true) : ∀ o ∈ hpC t b ft fb r y, PureO o := by
  intro o ho
  simp only [hpC, List.mem_cons, List.not_mem_nil, or_false] at ho
  rcases ho with rfl | rfl | rfl
  · exact ⟨_, _, rfl, by simp⟩
  · exact ⟨_, _, rfl, by simp⟩
  · exact ⟨_, _, rfl, by simp [hy]⟩

theorem checkCut_ok {t b : List Int} {ft fb : Bool} {r : Ru} {l : List (Int × Int)} {fl : Bool} (hsz : Sz t b) (hl : (l.length : Int) < 1000000000) :
    FSpec Try.prog 24 [.agg [sl t ft, sl b fb], .agg r.cells, slL l fl] [] (pairV (cutP t b r l)) [] := by
  refine fn24.spec0 mixed noIt_ok ?_
  rw [ic24]
  have h7 : List.take 7 r.cells = r.cells := rfl
  have quit : ∀ {c : Int} {env σ K E}, cutP t b r l = (0, c) → ab Try.prog noY noIt 0 ((IC.reg [IS.op (some 6) none (IOp.mov (Od.c (V.i IntKind.i64 0))), IS.op (some 7) none (IOp.mov (Od.c (V.i IntKind.i64 c)))] (some [6, 7])).seq IC.ret) K E (finK rs24 [] (pairV (cutP t b r l)) []) (some 0) env σ := by
    intro c env σ K E hn
    refine ab_seq_k fun K1 h1 => ?_
    simp
    refine h1 _ _ _ ?_
    simp
    exact fin_of 1 (by simp [rs24, hn, pairV])
  refine ab_seq_k fun K1 h1 => ?_
  simp
  refine h1 _ _ _ ?_
  clear h1 K1
  refine ab_seq_k fun K2 h2 => ?_
  have hcell : cellsOf (openV t ft b fb [r]) = some [openV t ft b fb [r]] := by unfold openV; split <;> rfl
  simp [h7]
  refine callK_of (open1 hsz) ?_
  simp [hcell]
  refine h2 _ _ _ ?_
  clear h2 K2
  refine ab_seq_k fun K3 h3 => ?_
  refine ab_block_k fun K4 h4 => ?_
  refine ab_seq_k fun K5 h5 => ?_
  simp
  refine h5 _ _ _ ?_
  clear h5 K5
  refine ab_cond_of rfl (fun hc => ?_) (fun hc => ?_)
  · simp at hc
    refine ab_seq_k fun K6 h6 => ?_
    simp
    refine h6 _ _ _ ?_
    simp
    exact fin_of 1 (by simp [rs24, cutP, hc, pairV])
  simp at hc
  obtain ⟨ok, hov⟩ := open_some (ft := ft) (fb := fb) hsz hc
  obtain ⟨n2, n61, tv, bl, hr⟩ := ok
  rw [hov]
  refine ab_seq_k fun K7 h7' => ?_
  simp
  refine h7' _ _ _ ?_
  clear h7' K7
  refine ab_cond_of rfl (fun hc2 => quit ?_) (fun hc2 => ?_)
  · simp at hc2
    have : 60 < l.length := by omega
    simp [cutP, hc, this]
  have hlen : ¬ 60 < l.length := by simp at hc2; omega
  refine ab_seq_k fun K8 h8 => ?_
  simp
  have hcont : FSpec Try.prog 60 [slL l fl, .f (.func 61) [] [.p 2 0 0]] (hpC t b ft fb r (yardV t ft b fb (knownK t b r))) (.b (l.any fun p => !isLog t.length p.1 p.2)) (hpC t b ft fb r (yardV t ft b fb (knownK t b r))) := by
    refine FSpec.frozen 3 (v := .b (l.any fun p => !isLog t.length p.1 p.2)) ?_ rfl
    have := containsFuncL (l := l) (full := fl) (g := 61) (first := []) (cap := [.sp [yardV t ft b fb (knownK t b r)] 0]) (p := fun p => !isLog t.length p.1 p.2) (fun x => by simpa using notLog_ok (by omega)) hl
    simpa [hpC] using this
  refine callK_of hcont ?_
  simp
  refine h8 _ _ _ ?_
  clear h8 K8 hcont
  have hany : (l.any fun p => !isLog t.length p.1 p.2) = !(l.all fun p => isLog t.length p.1 p.2) := by
    rw [List.all_eq_not_any_not]; simp
  refine ab_cond_of rfl (fun hc3 => quit ?_) (fun hc3 => ?_)
  · rw [hany] at hc3
    have : (l.all fun p => isLog t.length p.1 p.2) = false := by simpa using hc3
    simp only [cutP, hc, hlen, this, if_true, if_false, ne_eq, not_true_eq_false]
  rw [hany] at hc3
  have hall : (l.all fun p => isLog t.length p.1 p.2) = true := by simpa using hc3
  have hlogs : ∀ p ∈ l, isLog t.length p.1 p.2 = true := List.all_eq_true.1 hall
  simp
  refine h4 _ _ _ ?_
  refine h3 _ _ _ ?_
  clear h3 h4
  generalize hy : yardV t ft b fb (knownK t b r) = y at *
  have hyp : y.pure = true := by rw [← hy]; simp
  refine ab_seq_k fun K9 h9 => ?_
  simp
  refine h9 _ _ _ ?_
  clear h9 K9
  refine ab_seq_k fun K10 h10 => ?_
  refine ab_seq_k fun K11 h11 => ?_
  simp
  refine h11 _ _ _ ?_
  clear h11 K11
  refine ab_block_k fun K12 h12 => ?_
  refine ab_loop_k (fun m env σ => ∃ (i : Nat) (next : Int), i + m = l.length ∧ ordered 0 l = ordered next (l.drop i) ∧ env = [(2, slL l fl), (8, .p 2 0 0), (10, .i .i64 next), (36, slL l fl), (37, .i .i64 l.length), (38, .i .i64 i)] ∧ σ = hpC t b ft fb r y) l.length
    ⟨0, 0, by omega, by simp, by simp, rfl⟩ ?_
  rintro m env σ ⟨i, next, hi, hord, rfl, rfl⟩ K13 h13
  rw [ic24_0]
  refine ab_seq_k fun K14 h14 => ?_
  simp
  refine h14 _ _ _ ?_
  clear h14 K14
  refine ab_seq_k fun K15 h15 => ?_
  refine ab_cond_of rfl (fun hc4 => ?_) (fun hc4 => ?_)
  · have hlt : i < l.length := by simp at hc4; omega
    have hget : l[i]? = some l[i] := List.getElem?_eq_getElem hlt
    obtain ⟨e1, -, -⟩ := lsV_get hget
    have hd : l.drop i = l[i] :: l.drop (i + 1) := List.drop_eq_getElem_cons hlt
    generalize hx : l[i] = p at *
    have hle : i * 2 + 2 ≤ l.length * 2 := by omega
    rw [hd, ordered] at hord
    simp
    refine h15 _ _ _ ?_
    refine ab_seq_k fun K16 h16 => ?_
    refine ab_block_k fun K17 h17 => ?_
    refine ab_seq_k fun K18 h18 => ?_
    simp [hpC, hlt, hle, e1]
    refine h18 _ _ _ ?_
    clear h18 K18
    refine ab_seq_k fun K19 h19 => ?_
    refine ab_seq_k fun K20 h20 => ?_
    simp
    refine h20 _ _ _ ?_
    clear h20 K20
    refine ab_cond_of rfl (fun hc5 => quit ?_) (fun hc5 => ?_)
    · have hn : decide (next ≤ p.1) = false := by simp at hc5 ⊢; omega
      have : ordered 0 l = false := by rw [hord, hn]; rfl
      simp only [cutP, hc, hlen, hall, this, if_true, if_false, ne_eq, not_true_eq_false, Bool.true_eq_false]
    · have hn : decide (next ≤ p.1) = true := by simp at hc5 ⊢; omega
      rw [hn, Bool.true_and] at hord
      simp
      refine h19 _ _ _ ?_
      simp
      refine h17 _ _ _ ?_
      refine h16 _ _ _ ?_
      simp [wrap64 (x := (i : Int) + 1) (by omega) (by omega)]
      refine h13 _ _ _ (againF (m - 1) 3 3 (by omega) (by omega) (by simp) ⟨i + 1, p.2, by omega, hord, ?_, ?_⟩)
      · rw [keepO_some, keep_frzE]
        simp [frzE]
      · exact frzS_pureL (base := hpC t b ft fb r y) (k := 2) (hpC_pure hyp)
  have hlt : i = l.length := by simp at hc4; omega
  subst hlt
  have hordT : ordered 0 l = true := by rw [hord, List.drop_length]; rfl
  simp
  refine h12 _ _ _ ?_
  refine h10 _ _ _ ?_
  clear h10 h12 h13 h15
  refine ab_seq_k fun K21 h21 => ?_
  simp
  refine h21 _ _ _ ?_
  clear h21 K21
  refine ab_seq_k fun K22 h22 => ?_
  refine ab_seq_k fun K23 h23 => ?_
  simp
  refine h23 _ _ _ ?_
  clear h23 K23
  refine ab_block_k fun K24 h24 => ?_
  refine ab_loop_k (fun m env σ => ∃ i : Nat, i + m = l.length ∧ (l.take i).any (fun p => decide (scaleP t b r p.1 p.2 = 0)) = false ∧ env = [(8, .p 2 0 0), (13, .i .i64 (sumOf t b r (l.take i))), (49, slL l fl), (50, .i .i64 l.length), (51, .i .i64 i)] ∧ σ = hpC t b ft fb r y) l.length
    ⟨0, by omega, by simp, by simp [sumOf], rfl⟩ ?_
  rintro m env σ ⟨i, hi, hno, rfl, rfl⟩ K25 h25
  rw [ic24_1]
  refine ab_seq_k fun K26 h26 => ?_
  simp
  refine h26 _ _ _ ?_
  clear h26 K26
  refine ab_seq_k fun K27 h27 => ?_
  refine ab_cond_of rfl (fun hc4 => ?_) (fun hc4 => ?_)
  · have hlt : i < l.length := by simp at hc4; omega
    have hget : l[i]? = some l[i] := List.getElem?_eq_getElem hlt
    obtain ⟨e1, -, -⟩ := lsV_get hget
    have htake : l.take (i + 1) = l.take i ++ [l[i]] := by rw [List.take_add_one, hget]; rfl
    have hmem : l[i] ∈ l := List.getElem_mem hlt
    generalize hx : l[i] = p at *
    have hle : i * 2 + 2 ≤ l.length * 2 := by omega
    obtain ⟨a1, a2, a3⟩ := isLog_iff.1 (hlogs p hmem)
    have hs := sumOf_le (b := b) hr tv (l := l.take i) (fun q hq => hlogs q (List.mem_of_mem_take hq))
    have hs2 := sumOf_le (b := b) hr tv (l := [p]) (fun q hq => by simp at hq; subst hq; exact hlogs _ hmem)
    simp only [sumOf, List.length_singleton, List.length_take] at hs hs2
    have hmin : ((min i l.length : Nat) : Int) ≤ 60 := by omega
    simp
    refine h27 _ _ _ ?_
    refine ab_seq_k fun K28 h28 => ?_
    refine ab_block_k fun K29 h29 => ?_
    refine ab_seq_k fun K30 h30 => ?_
    simp [hpC, hlt, hle, e1]
    refine h30 _ _ _ ?_
    clear h30 K30
    refine ab_seq_k fun K31 h31 => ?_
    simp
    rw [← hy]
    refine callK_of (FSpec.frame (scale_ok (t := t) (ft := ft) (b := b) (fb := fb) (kn := knownK t b r) (x := p.1) (y := p.2)) (by simp) rfl) ?_
    rw [look_known hr a1 a2 a3]
    simp
    refine h31 _ _ _ ?_
    clear h31 K31
    refine ab_seq_k fun K32 h32 => ?_
    refine ab_seq_k fun K33 h33 => ?_
    simp
    refine h33 _ _ _ ?_
    clear h33 K33
    refine ab_cond_of rfl (fun hc5 => quit ?_) (fun hc5 => ?_)
    · have hz : scaleP t b r p.1 p.2 = 0 := by simpa using hc5
      have : l.any (fun p => decide (scaleP t b r p.1 p.2 = 0)) = true := by rw [List.any_eq_true]; exact ⟨p, hmem, by simp [hz]⟩
      simp only [cutP, hc, hlen, hall, hordT, this, if_true, if_false, ne_eq, not_true_eq_false, Bool.true_eq_false]
    · have hz : ¬ scaleP t b r p.1 p.2 = 0 := by simpa using hc5
      simp [wrap64 (x := sumOf t b r (l.take i) + scaleP t b r p.1 p.2) (by omega) (by omega)]
      refine h32 _ _ _ ?_
      simp [wrap64 (x := sumOf t b r (l.take i) + scaleP t b r p.1 p.2) (by omega) (by omega)]
      refine h29 _ _ _ ?_
      refine h28 _ _ _ ?_
      simp [wrap64 (x := (i : Int) + 1) (by omega) (by omega)]
      refine h25 _ _ _ (againF (m - 1) 3 3 (by omega) (by omega) (by simp) ⟨i + 1, by omega, ?_, ?_, ?_⟩)
      · rw [htake, List.any_append, hno]; simp [hz]
      · rw [keepO_some, keep_frzE, htake, sumOf_append]
        simp [frzE, sumOf]
      · rw [hy]
        exact frzS_pureL (base := hpC t b ft fb r y) (k := 2) (hpC_pure hyp)
  have hlt : i = l.length := by simp at hc4; omega
  subst hlt
  rw [List.take_length] at hno
  simp
  refine h24 _ _ _ ?_
  refine h22 _ _ _ ?_
  refine ab_seq_k fun K34 h34 => ?_
  simp
  refine h34 _ _ _ ?_
  simp
  have : cutP t b r l = (sumOf t b r l, 0) := by
    simp only [cutP, hc, hlen, hall, hordT, hno, if_true, if_false, ne_eq, not_true_eq_false, Bool.true_eq_false, Bool.false_eq_true]
  exact fin_of 1 (by simp [rs24, this, pairV])
end Go.Ab
end

section
/- The reference's CheckCut. -/
set_option linter.unusedVariables false
set_option linter.unusedSimpArgs false
set_option maxHeartbeats 4000000
namespace Go.Ab
open Go Go.Proofs

def hpB (t b : List Int) (ft fb : Bool) (r : Ru) : List O := [.row 0 [sl t ft, sl b fb], .row 0 r.cells]
theorem hpB_pure {t b ft fb r} : ∀ o ∈ hpB t b ft fb r, PureO o := by
  intro o ho
  simp only [hpB, List.mem_cons, List.not_mem_nil, or_false] at ho
  rcases ho with rfl | rfl
  · exact ⟨_, _, rfl, by simp⟩
  · exact ⟨_, _, rfl, by simp⟩

/-- Where the log before ends. -/
def endOf (l : List (Int × Int)) : Int := match l.getLast? with | some q => q.2 | none => 0

theorem refCut {t b : List Int} {ft fb : Bool} {r : Ru} {l : List (Int × Int)} {fl : Bool} (hsz : Sz t b) (hl : (l.length : Int) < 1000000000) :
    FSpec Try.prog 25 [.agg [sl t ft, sl b fb], .agg r.cells, slL l fl] [] (pairV (cutP t b r l)) [] := by
  refine fn25.spec0 mixed noIt_ok ?_
  rw [ic25]
  have hchk := refCheck (t := t) (b := b) (ft := ft) (fb := fb) (r := r) hsz.t1 hsz.b1 hsz.bb
  rw [openE_one] at hchk
  have h7 : List.take 7 r.cells = r.cells := rfl
  have quit : ∀ {c : Int} {env σ K E}, cutP t b r l = (0, c) → ab Try.prog noY noIt 0 ((IC.reg [IS.op (some 6) none (IOp.mov (Od.c (V.i IntKind.i64 0))), IS.op (some 7) none (IOp.mov (Od.c (V.i IntKind.i64 c)))] (some [6, 7])).seq IC.ret) K E (finK rs25 [] (pairV (cutP t b r l)) []) (some 0) env σ := by
    intro c env σ K E hn
    refine ab_seq_k fun K1 h1 => ?_
    simp
    refine h1 _ _ _ ?_
    simp
    exact fin_of 1 (by simp [rs25, hn, pairV])
  refine ab_seq_k fun K1 h1 => ?_
  simp
  refine h1 _ _ _ ?_
  clear h1 K1
  refine ab_seq_k fun K2 h2 => ?_
  refine ab_seq_k fun K3 h3 => ?_
  simp [h7]
  refine callK_of (FSpec.frame hchk (by simp) rfl) ?_
  simp
  refine h3 _ _ _ ?_
  clear h3 K3
  refine ab_cond_of rfl (fun hc => ?_) (fun hc => ?_)
  · simp at hc
    refine ab_seq_k fun K4 h4 => ?_
    simp [h7]
    refine callK_of (FSpec.frame hchk (by simp) rfl) ?_
    simp
    refine h4 _ _ _ ?_
    simp
    exact fin_of 1 (by simp [rs25, cutP, hc, pairV])
  simp at hc
  obtain ⟨ok, -⟩ := open_some (ft := ft) (fb := fb) hsz hc
  obtain ⟨n2, n61, tv, bl, hr⟩ := ok
  simp
  refine h2 _ _ _ ?_
  clear h2
  refine ab_seq_k fun K5 h5 => ?_
  refine ab_seq_k fun K6 h6 => ?_
  simp
  refine h6 _ _ _ ?_
  clear h6 K6
  refine ab_cond_of rfl (fun hc2 => quit ?_) (fun hc2 => ?_)
  · have : 60 < l.length := by simp at hc2; omega
    simp [cutP, hc, this]
  have hlen : ¬ 60 < l.length := by simp at hc2; omega
  simp
  refine h5 _ _ _ ?_
  clear h5
  refine ab_seq_k fun K7 h7' => ?_
  refine ab_seq_k fun K8 h8 => ?_
  simp
  refine h8 _ _ _ ?_
  clear h8 K8
  refine ab_block_k fun K9 h9 => ?_
  refine ab_loop_k (fun m env σ => ∃ i : Nat, i + m = l.length ∧ (l.take i).all (fun p => isLog t.length p.1 p.2) = true ∧ env = [(2, slL l fl), (3, .p 0 0 0), (4, .p 1 0 0), (8, .i .i64 i)] ∧ σ = hpB t b ft fb r) l.length ⟨0, by omega, by simp, by simp, rfl⟩ ?_
  rintro m env σ ⟨i, hi, hyes, rfl, rfl⟩ K10 h10
  rw [ic25_0]
  refine ab_seq_k fun K11 h11 => ?_
  refine ab_seq_k fun K12 h12 => ?_
  simp
  refine h12 _ _ _ ?_
  clear h12 K12
  refine ab_cond_of rfl (fun hc3 => ?_) (fun hc3 => ?_)
  · have hlt : i < l.length := by simp at hc3; omega
    have hget : l[i]? = some l[i] := List.getElem?_eq_getElem hlt
    obtain ⟨e1, -, -⟩ := lsV_get hget
    have htake : l.take (i + 1) = l.take i ++ [l[i]] := by rw [List.take_add_one, hget]; rfl
    have hmem : l[i] ∈ l := List.getElem_mem hlt
    generalize hx : l[i] = p at *
    have hle : i * 2 + 2 ≤ l.length * 2 := by omega
    simp
    refine h11 _ _ _ ?_
    refine ab_seq_k fun K13 h13 => ?_
    refine ab_block_k fun K14 h14 => ?_
    refine ab_seq_k fun K15 h15 => ?_
    simp [hpB, hlt, hle, e1]
    refine callK_of (FSpec.frame (refIsLog (t := t) (b := b) (ft := ft) (fb := fb) (x := p.1) (y := p.2) hsz.t1) (by simp) rfl) ?_
    simp
    refine h15 _ _ _ ?_
    clear h15 K15
    refine ab_cond_of rfl (fun hc4 => quit ?_) (fun hc4 => ?_)
    · have : l.all (fun p => isLog t.length p.1 p.2) = false := by rw [List.all_eq_false]; exact ⟨p, hmem, by simpa using hc4⟩
      simp only [cutP, hc, hlen, this, if_true, if_false, ne_eq, not_true_eq_false]
    · simp
      refine h14 _ _ _ ?_
      refine h13 _ _ _ ?_
      simp [wrap64 (x := (i : Int) + 1) (by omega) (by omega)]
      refine h10 _ _ _ (again (m - 1) (by omega) ⟨i + 1, by omega, ?_, by simp, rfl⟩)
      rw [htake, List.all_append, hyes]
      simpa using hc4
  have hlt : i = l.length := by simp at hc3; omega
  subst hlt
  have hall : (l.all fun p => isLog t.length p.1 p.2) = true := by simpa using hyes
  have hlogs : ∀ p ∈ l, isLog t.length p.1 p.2 = true := List.all_eq_true.1 hall
  simp
  refine h9 _ _ _ ?_
  refine h7' _ _ _ ?_
  clear h7' h9 h10 h11
  refine ab_seq_k fun K16 h16 => ?_
  refine ab_seq_k fun K17 h17 => ?_
  simp
  refine h17 _ _ _ ?_
  clear h17 K17
  refine ab_block_k fun K18 h18 => ?_
  refine ab_loop_k (fun m env σ => ∃ i : Nat, 1 ≤ i ∧ (i + m = l.length ∨ (m = 0 ∧ l.length ≤ i)) ∧ ordered 0 (l.take i) = true ∧ env = [(2, slL l fl), (3, .p 0 0 0), (4, .p 1 0 0), (9, .i .i64 i)] ∧ σ = hpB t b ft fb r) (l.length - 1) ⟨1, Nat.le_refl _, by omega, ?_, by simp, rfl⟩ ?_
  · cases l with
    | nil => rfl
    | cons p l =>
      obtain ⟨a1, -, -⟩ := isLog_iff.1 (hlogs p (List.mem_cons_self ..))
      simp [ordered, a1]
  rintro m env σ ⟨i, h1i, hi, hord, rfl, rfl⟩ K19 h19
  rw [ic25_1]
  refine ab_seq_k fun K20 h20 => ?_
  refine ab_seq_k fun K21 h21 => ?_
  simp
  refine h21 _ _ _ ?_
  clear h21 K21
  refine ab_cond_of rfl (fun hc3 => ?_) (fun hc3 => ?_)
  · have hlt : i < l.length := by simp at hc3; omega
    obtain ⟨j, rfl⟩ : ∃ j, i = j + 1 := ⟨i - 1, by omega⟩
    have hget : l[j + 1]? = some l[j + 1] := List.getElem?_eq_getElem hlt
    have hget2 : l[j]? = some l[j] := List.getElem?_eq_getElem (by omega)
    obtain ⟨-, e1, -⟩ := lsV_get hget
    obtain ⟨-, -, e2⟩ := lsV_get hget2
    have htake : l.take (j + 1 + 1) = l.take (j + 1) ++ [l[j + 1]] := by rw [List.take_add_one, hget]; rfl
    have htake2 : l.take (j + 1) = l.take j ++ [l[j]] := by rw [List.take_add_one, hget2]; rfl
    have hprefix : ordered 0 l = true → ordered 0 (l.take (j + 1 + 1)) = true := by
      intro h
      have key : ∀ (n : Nat) (next : Int) (l : List (Int × Int)), ordered next l = true → ordered next (l.take n) = true := by
        intro n
        induction n with
        | zero => intro next l _; rfl
        | succ n ih =>
          intro next l h
          cases l with
          | nil => rfl
          | cons p l =>
            simp only [List.take_succ_cons, ordered, Bool.and_eq_true] at h ⊢
            exact ⟨h.1, ih _ _ h.2⟩
      exact key _ _ _ h
    have hstep : ordered 0 (l.take (j + 1 + 1)) = decide (l[j].2 ≤ l[j + 1].1) := by
      have hlast : (l.take (j + 1)).getLast? = some l[j] := by rw [htake2, List.getLast?_append]; rfl
      rw [htake, ordered_append, hord, Bool.true_and, hlast]
    generalize hx : l[j + 1] = p at *
    generalize hy : l[j] = q at *
    have e3 : ((j : Int) + 1).toNat = j + 1 := by omega
    have e4 : (j : Int) + 1 < l.length := by omega
    have e5 : (0 : Int) ≤ (j : Int) + 1 := by omega
    have e6 : (j : Int) < l.length := by omega
    have e7 : (j : Int) + 1 - 1 = j := by omega
    have e8 : j < l.length := by omega
    obtain ⟨f1, k1⟩ := List.getElem?_eq_some_iff.1 e1
    obtain ⟨f2, k2⟩ := List.getElem?_eq_some_iff.1 e2
    simp
    refine h20 _ _ _ ?_
    refine ab_seq_k fun K22 h22 => ?_
    refine ab_block_k fun K23 h23 => ?_
    refine ab_seq_k fun K24 h24 => ?_
    simp [e3, e4, e5, e6, e7, e8, e1, e2, k1, k2, wrap64 (x := (j : Int)) (by omega) (by omega)]
    refine h24 _ _ _ ?_
    clear h24 K24
    refine ab_cond_of rfl (fun hc4 => quit ?_) (fun hc4 => ?_)
    · have : ordered 0 l = false := by
        cases h : ordered 0 l with
        | false => rfl
        | true =>
          have := hprefix h
          rw [hstep] at this
          simp at this hc4
          omega
      simp only [cutP, hc, hlen, hall, this, if_true, if_false, ne_eq, not_true_eq_false, Bool.true_eq_false]
    · simp
      refine h23 _ _ _ ?_
      refine h22 _ _ _ ?_
      simp [wrap64 (x := (j : Int) + 1 + 1) (by omega) (by omega)]
      refine h19 _ _ _ (again (m - 1) (by omega) ⟨j + 2, by omega, by omega, ?_, by simp; omega, rfl⟩)
      show ordered 0 (l.take (j + 1 + 1)) = true
      rw [hstep]
      simp at hc4 ⊢
      omega
  have hge : l.length ≤ i := by simp at hc3; omega
  rw [List.take_of_length_le hge] at hord
  simp
  refine h18 _ _ _ ?_
  refine h16 _ _ _ ?_
  clear h16 h18 h19 h20
  refine ab_seq_k fun K25 h25 => ?_
  simp
  refine h25 _ _ _ ?_
  clear h25 K25
  refine ab_seq_k fun K26 h26 => ?_
  refine ab_seq_k fun K27 h27 => ?_
  simp
  refine h27 _ _ _ ?_
  clear h27 K27
  refine ab_block_k fun K28 h28 => ?_
  refine ab_loop_k (fun m env σ => ∃ i : Nat, i + m = l.length ∧ (l.take i).any (fun p => decide (scaleP t b r p.1 p.2 = 0)) = false ∧ env = [(2, slL l fl), (3, .p 0 0 0), (4, .p 1 0 0), (10, .i .i64 (sumOf t b r (l.take i))), (11, .i .i64 i)] ∧ σ = hpB t b ft fb r) l.length
    ⟨0, by omega, by simp, by simp [sumOf], rfl⟩ ?_
  rintro m env σ ⟨i, hi, hno, rfl, rfl⟩ K29 h29
  rw [ic25_2]
  refine ab_seq_k fun K30 h30 => ?_
  refine ab_seq_k fun K31 h31 => ?_
  simp
  refine h31 _ _ _ ?_
  clear h31 K31
  refine ab_cond_of rfl (fun hc4 => ?_) (fun hc4 => ?_)
  · have hlt : i < l.length := by simp at hc4; omega
    have hget : l[i]? = some l[i] := List.getElem?_eq_getElem hlt
    obtain ⟨-, e1, e2⟩ := lsV_get hget
    have htake : l.take (i + 1) = l.take i ++ [l[i]] := by rw [List.take_add_one, hget]; rfl
    have hmem : l[i] ∈ l := List.getElem_mem hlt
    generalize hx : l[i] = p at *
    obtain ⟨a1, a2, a3⟩ := isLog_iff.1 (hlogs p hmem)
    have hs := sumOf_le (b := b) hr tv (l := l.take i) (fun q hq => hlogs q (List.mem_of_mem_take hq))
    have hs2 := sumOf_le (b := b) hr tv (l := [p]) (fun q hq => by simp at hq; subst hq; exact hlogs _ hmem)
    simp only [sumOf, List.length_singleton, List.length_take] at hs hs2
    have hmin : ((min i l.length : Nat) : Int) ≤ 60 := by omega
    have hnn := scaleP_nonneg (t := t) (b := b) (x := p.1) (y := p.2) hr
    obtain ⟨f1, k1⟩ := List.getElem?_eq_some_iff.1 e1
    obtain ⟨f2, k2⟩ := List.getElem?_eq_some_iff.1 e2
    simp
    refine h30 _ _ _ ?_
    refine ab_seq_k fun K32 h32 => ?_
    refine ab_block_k fun K33 h33 => ?_
    refine ab_seq_k fun K34 h34 => ?_
    simp [hpB, hlt, e1, e2, k1, k2, h7]
    refine callK_of (FSpec.frame (refScale (t := t) (b := b) (ft := ft) (fb := fb) (r := r) (x := p.1) (y := p.2) n61 tv bl hr a1 a2 a3) (by simp) rfl) ?_
    simp
    refine h34 _ _ _ ?_
    clear h34 K34
    refine ab_seq_k fun K35 h35 => ?_
    refine ab_seq_k fun K36 h36 => ?_
    simp
    refine h36 _ _ _ ?_
    clear h36 K36
    refine ab_cond_of rfl (fun hc5 => quit ?_) (fun hc5 => ?_)
    · have hz : scaleP t b r p.1 p.2 = 0 := by simp at hc5; omega
      have : l.any (fun p => decide (scaleP t b r p.1 p.2 = 0)) = true := by rw [List.any_eq_true]; exact ⟨p, hmem, by simp [hz]⟩
      simp only [cutP, hc, hlen, hall, hord, this, if_true, if_false, ne_eq, not_true_eq_false, Bool.true_eq_false]
    · have hz : ¬ scaleP t b r p.1 p.2 = 0 := by simp at hc5; omega
      simp
      refine h35 _ _ _ ?_
      simp [wrap64 (x := sumOf t b r (l.take i) + scaleP t b r p.1 p.2) (by omega) (by omega)]
      refine h33 _ _ _ ?_
      refine h32 _ _ _ ?_
      simp [wrap64 (x := (i : Int) + 1) (by omega) (by omega)]
      refine h29 _ _ _ (again (m - 1) (by omega) ⟨i + 1, by omega, ?_, ?_, rfl⟩)
      · rw [htake, List.any_append, hno]; simp [hz]
      · rw [htake, sumOf_append]
        simp [sumOf]
  have hlt : i = l.length := by simp at hc4; omega
  subst hlt
  rw [List.take_length] at hno
  simp
  refine h28 _ _ _ ?_
  refine h26 _ _ _ ?_
  refine ab_seq_k fun K37 h37 => ?_
  simp
  refine h37 _ _ _ ?_
  simp
  have : cutP t b r l = (sumOf t b r l, 0) := by
    simp only [cutP, hc, hlen, hall, hord, hno, if_true, if_false, ne_eq, not_true_eq_false, Bool.true_eq_false, Bool.false_eq_true]
  exact fin_of 1 (by simp [rs25, this, pairV])
end Go.Ab
end

section
/- A best cutting (plain). -/
set_option linter.unusedVariables false
set_option linter.unusedSimpArgs false
namespace Go.Ab
open Go Go.Proofs

theorem acc_cases {sc : Nat → Nat → Int} {lt : Nat → Nat → Bool} {vn : Nat → Int} {i : Nat} : ∀ {j : Nat}, acc sc lt vn i j = vn (i + 1) ∨ ∃ j', j' < j ∧ 0 < sc i (i + 1 + j') ∧ lt i (i + 1 + j') = true ∧ acc sc lt vn i j = sc i (i + 1 + j') + vn (i + 1 + j')
  | 0 => .inl rfl
  | j + 1 => by
    simp only [acc]
    split
    · rename_i hc
      by_cases hm : acc sc lt vn i j ≤ sc i (i + 1 + j) + vn (i + 1 + j)
      · exact .inr ⟨j, by omega, hc.1, hc.2, by omega⟩
      · have e : max (acc sc lt vn i j) (sc i (i + 1 + j) + vn (i + 1 + j)) = acc sc lt vn i j := by omega
        rw [e]
        rcases acc_cases (sc := sc) (lt := lt) (vn := vn) (i := i) (j := j) with h | ⟨j', h1, h2, h3, h4⟩
        · exact .inl h
        · exact .inr ⟨j', by omega, h2, h3, h4⟩
    · rcases acc_cases (sc := sc) (lt := lt) (vn := vn) (i := i) (j := j) with h | ⟨j', h1, h2, h3, h4⟩
      · exact .inl h
      · exact .inr ⟨j', by omega, h2, h3, h4⟩

theorem logsUp_of {kn : Kn} {a : Nat} : ∀ {j i : Nat}, i < j → 0 < look kn (a, (a : Int) + 1 + i) → ((a : Int) + 1 + i, look kn (a, (a : Int) + 1 + i)) ∈ logsUp kn a j
  | 0, i, h, _ => by omega
  | j + 1, i, h, hp => by
    simp only [logsUp, List.mem_append]
    by_cases hi : i = j
    · subst hi; right; rw [if_pos hp]; simp
    · left; exact logsUp_of (by omega) hp

def cutG (v : Nat → Int) (kn : Kn) (L : Nat) : Nat → Nat → List (Int × Int)
  | 0, _ => []
  | k + 1, a => if a < L then (if v a = v (a + 1) then cutG v kn L k (a + 1) else
      match (logsUp kn a (L - a)).find? (fun p => decide (v a = p.2 + v p.1.toNat)) with
      | some p => ((a : Int), p.1) :: cutG v kn L k p.1.toNat
      | none => []) else []

theorem cutG_end {v : Nat → Int} {kn : Kn} {L : Nat} : ∀ {k a : Nat}, L ≤ a → cutG v kn L k a = []
  | 0, _, _ => rfl
  | k + 1, a, h => by simp only [cutG]; rw [if_neg (by omega)]

theorem cutG_ok {t b : List Int} {r : Ru} (ok : Ok t b r) : ∀ {k a : Nat}, t.length - 1 - a ≤ k → a ≤ t.length - 1 →
    ordered a (cutG (restN t b r allL) (knownK t b r) (t.length - 1) k a) = true ∧ (∀ p ∈ cutG (restN t b r allL) (knownK t b r) (t.length - 1) k a, isLog t.length p.1 p.2 = true ∧ scaleP t b r p.1 p.2 ≠ 0) ∧
    sumOf t b r (cutG (restN t b r allL) (knownK t b r) (t.length - 1) k a) = restN t b r allL a ∧ (cutG (restN t b r allL) (knownK t b r) (t.length - 1) k a).length ≤ t.length - 1 - a := by
  obtain ⟨n2, n61, tv, bl, hr⟩ := ok
  intro k
  induction k with
  | zero =>
    intro a h1 h2
    have : a = t.length - 1 := by omega
    subst this
    refine ⟨rfl, by simp [cutG], ?_, by simp [cutG]⟩
    simp only [cutG, sumOf]
    exact val_last.symm
  | succ k ih =>
    intro a h1 h2
    by_cases hlt : a < t.length - 1
    · simp only [cutG]
      rw [if_pos hlt]
      have ordm : ∀ (n m : Int) (l : List (Int × Int)), n ≤ m → ordered m l = true → ordered n l = true := by
        intro n m l hnm h
        cases l with
        | nil => rfl
        | cons p l => simp only [ordered, Bool.and_eq_true, decide_eq_true_eq] at h ⊢; exact ⟨by omega, h.2⟩
      split
      · rename_i he
        obtain ⟨q1, q2, q3, q4⟩ := ih (a := a + 1) (by omega) (by omega)
        exact ⟨ordm _ _ _ (by omega) q1, q2, by rw [q3, he], by omega⟩
      · rename_i he
        have hrec : restN t b r allL a = acc (scN t b r) allL.letsN (restN t b r allL) a (t.length - 1 - a) := val_rec hlt
        rcases acc_cases (sc := scN t b r) (lt := allL.letsN) (vn := restN t b r allL) (i := a) (j := t.length - 1 - a) with h | ⟨j, hj, hp, -, hv⟩
        · exact absurd (hrec.trans h) he
        · have hlk : look (knownK t b r) (a, (a : Int) + 1 + j) = scN t b r a (a + 1 + j) := by
            rw [look_known hr (by omega) (by omega) (by omega)]
            unfold scN
            congr 1
          have hmem := logsUp_of (kn := knownK t b r) (a := a) (j := t.length - 1 - a) (i := j) hj (by rw [hlk]; exact hp)
          split
          · rename_i p hf
            have hpm := List.mem_of_find?_eq_some hf
            have hpd := List.find?_some hf
            obtain ⟨i, hi, hpe, hpos⟩ := logsUp_mem hpm
            obtain ⟨to, sv⟩ := p
            simp only [Prod.mk.injEq] at hpe
            obtain ⟨hto, hsv⟩ := hpe
            simp only [decide_eq_true_eq] at hpd hpos
            have htoN : to.toNat = a + 1 + i := by omega
            have hlk2 : look (knownK t b r) (a, (a : Int) + 1 + i) = scaleP t b r a to := by
              rw [look_known hr (by omega) (by omega) (by omega), hto]
            obtain ⟨q1, q2, q3, q4⟩ := ih (a := to.toNat) (by omega) (by omega)
            have etn : ((to.toNat : Nat) : Int) = to := by omega
            rw [etn] at q1
            refine ⟨?_, ?_, ?_, ?_⟩
            · simp only [ordered, Int.le_refl, decide_true, Bool.true_and]
              exact q1
            · intro q hq
              rcases List.mem_cons.1 hq with rfl | hq
              · refine ⟨isLog_iff.2 ⟨by simp, by simp; omega, by simp; omega⟩, ?_⟩
                simp only
                rw [← hlk2, ← hsv]
                omega
              · exact q2 q hq
            · simp only [sumOf]
              rw [q3, ← hlk2, ← hsv]
              exact hpd.symm
            · simp only [List.length_cons]
              omega
          · rename_i hf
            rw [List.find?_eq_none] at hf
            have := hf _ hmem
            simp only [decide_eq_true_eq] at this
            exfalso
            apply this
            rw [hlk, show ((a : Int) + 1 + j).toNat = a + 1 + j by omega]
            exact hrec.trans hv
    · rw [cutG_end (by omega)]
      have : a = t.length - 1 := by omega
      subst this
      refine ⟨rfl, by simp, ?_, by simp⟩
      simp only [sumOf]
      exact val_last.symm

def cutL (t b : List Int) (r : Ru) : List (Int × Int) := cutG (restN t b r allL) (knownK t b r) (t.length - 1) (t.length - 1) 0

theorem cutL_best {t b : List Int} {r : Ru} (ok : Ok t b r) (h : openE t b [r] = 0) : cutP t b r (cutL t b r) = (restN t b r allL 0, 0) := by
  obtain ⟨q1, q2, q3, q4⟩ := cutG_ok ok (k := t.length - 1) (a := 0) (by omega) (by omega)
  have n61 := ok.n61
  have h1 : ¬ 60 < (cutL t b r).length := by unfold cutL; omega
  have h2 : (cutL t b r).all (fun p => isLog t.length p.1 p.2) = true := by rw [List.all_eq_true]; intro p hp; exact (q2 p hp).1
  have h3 : (cutL t b r).any (fun p => decide (scaleP t b r p.1 p.2 = 0)) = false := by
    rw [List.any_eq_false]; intro p hp; simpa using (q2 p hp).2
  have h4 : ordered 0 (cutL t b r) = true := q1
  simp only [cutP, h, h1, h2, h3, h4, if_true, if_false, ne_eq, not_true_eq_false, Bool.true_eq_false, Bool.false_eq_true]
  exact congrArg (·, (0 : Int)) q3
end Go.Ab
end

section
/- Cut: it returns the cutting that the plain function finds. -/
set_option linter.unusedVariables false
set_option linter.unusedSimpArgs false
set_option maxHeartbeats 4000000
namespace Go.Ab
open Go Go.Proofs

/-- A slice of logs that grows. -/
def AllC (σ : List O) (v : V) (l : List (Int × Int)) : Prop := (l = [] ∧ v = slL l true) ∨ ∃ id ver, 4 ≤ id ∧ v = .s id ver 0 l.length 2 ∧ σ[id]? = some (.row ver (lsV l)) ∧ l ≠ []
/-- What an append does not touch. -/
def Keeps (v : V) (σ σ' : List O) : Prop := σ.length ≤ σ'.length ∧ (∀ j, j < 4 → j < σ.length → σ'[j]? = σ[j]?) ∧ (∀ (j : Nat) (c : V), σ[j]? = some (.row 0 [c]) → σ'[j]? = some (.row 0 [c])) ∧
  ∀ j, j < σ.length → (∀ ver off n es, v ≠ .s j ver off n es) → σ'[j]? = σ[j]?

theorem appC_all {σ : List O} {v : V} {l : List (Int × Int)} {x y : Int} {C : Ct} (h : AllC σ v l) (hk : 4 ≤ σ.length) (hb : (l.length : Int) < 1000000000)
    (hC : ∀ v' σ', AllC σ' v' (l ++ [(x, y)]) → Keeps v σ σ' → C v' σ') : appTo 2 16 v σ C [.i .i64 x, .i .i64 y] 1 := by
  have hz : lsV (l ++ [(x, y)]) = lsV l ++ [.i .i64 x, .i .i64 y] := by rw [lsV_append]; rfl
  rcases h with ⟨-, rfl⟩ | ⟨id, ver, hid, rfl, hs, hne⟩
  · simp only [slL, appTo_ss]
    refine ⟨by simp, by omega, ?_⟩
    have e : (1 : Nat) ≠ 0 := by omega
    try rw [if_neg e]
    refine hC _ _ (.inr ⟨σ.length, 0, hk, by simp, ?_, by simp⟩) ⟨by simp, fun j h1 h2 => List.getElem?_append_left h2, fun j c hj => ?_, fun j h2 _ => List.getElem?_append_left h2⟩
    · rw [hz]; simp
    · rw [List.getElem?_append_left (List.getElem?_eq_some_iff.1 hj).1]; exact hj
  · have hlt := (List.getElem?_eq_some_iff.1 hs).1
    simp only [appTo, hs]
    refine ⟨trivial, trivial, by simp, by omega, ?_⟩
    rw [if_neg (by omega)]
    refine hC _ _ (.inr ⟨id, ver + 1, hid, by simp, ?_, by simp⟩) ⟨by simp, fun j h1 h2 => List.getElem?_set_ne (by omega), fun j c hj => ?_, fun j h2 hj => List.getElem?_set_ne (fun hE => hj ver 0 l.length 2 (by rw [hE]))⟩
    · rw [hz, List.getElem?_set_self hlt]; simp
    · rw [List.getElem?_set_ne]
      · exact hj
      · intro hE
        subst hE
        rw [hs] at hj
        simp only [Option.some.injEq, O.row.injEq] at hj
        have := congrArg List.length hj.2
        simp at this
        omega

theorem lenC_all {σ : List O} {v : V} {l : List (Int × Int)} {C : Ct} (h : AllC σ v l) (hC : C (.i .i64 l.length) σ) : lenC v σ C := by
  rcases h with ⟨-, rfl⟩ | ⟨id, ver, hid, rfl, hs, hne⟩
  · simpa [slL] using hC
  · simp only [lenC, lenK, liveV, hs]
    exact ⟨rfl, hC⟩
theorem slcC_all {σ : List O} {v : V} {l : List (Int × Int)} {C : Ct} (h : AllC σ v l) (hC : C v σ) : slcC 2 v none (some (.i .i64 l.length)) (some (.i .i64 l.length)) σ C := by
  rcases h with ⟨-, rfl⟩ | ⟨id, ver, hid, rfl, hs, hne⟩
  · simp only [slL, slcC_ssHM]
    refine ⟨by omega, by omega, by omega, ?_⟩
    have e : List.take (((l.length : Int).toNat - 0) * 2) (List.drop (0 * 2) (lsV l)) = lsV l := by
      rw [Nat.zero_mul, List.drop_zero]; exact List.take_of_length_le (by simp)
    rw [e]
    simpa using hC
  · simp only [slcC, slcK, slcB, liveV, hs]
    refine ⟨trivial, rfl, by omega, by omega, by omega, ?_⟩
    simpa using hC
theorem AllC.app {σ g : List O} {v : V} {l : List (Int × Int)} (h : AllC σ v l) : AllC (σ ++ g) v l := by
  rcases h with h | ⟨id, ver, h1, h2, h3, h4⟩
  · exact .inl h
  · exact .inr ⟨id, ver, h1, h2, by rw [List.getElem?_append_left (List.getElem?_eq_some_iff.1 h3).1]; exact h3, h4⟩
theorem AllC.set {σ : List O} {v : V} {l : List (Int × Int)} {i : Nat} {c : V} {o : O} (h : AllC σ v l) (hi : i < 4 ∨ σ[i]? = some (.row 0 [c])) : AllC (σ.set i o) v l := by
  rcases h with h | ⟨id, ver, h1, h2, h3, h4⟩
  · exact .inl h
  · refine .inr ⟨id, ver, h1, h2, ?_, h4⟩
    rw [List.getElem?_set_ne]
    · exact h3
    · rintro rfl
      rcases hi with hi | hi
      · omega
      · rw [h3] at hi
        simp only [Option.some.injEq, O.row.injEq] at hi
        have := congrArg List.length hi.2
        simp at this
        omega
theorem AllC.one {σ : List O} {v : V} {l : List (Int × Int)} (h : AllC σ v l) : cellsOf v = some [v] := by
  rcases h with ⟨-, rfl⟩ | ⟨_, _, _, rfl, _⟩ <;> rfl

/-- The heap of Cut. -/
structure HpK (σ : List O) (P : List Int) (v : V) (id : Nat) (a : Nat) (l : List (Int × Int)) : Prop where
  h2 : σ[2]? = some (.row 0 (ints P))
  h3 : σ[3]? = some (.row 0 [v])
  hi : σ[id]? = some (.row 0 [.i .i64 a])
  i4 : 4 ≤ id
  hv : AllC σ v l
theorem HpK.app {σ g : List O} {P v id a l} (h : HpK σ P v id a l) : HpK (σ ++ g) P v id a l :=
  ⟨by rw [List.getElem?_append_left (List.getElem?_eq_some_iff.1 h.h2).1]; exact h.h2, by rw [List.getElem?_append_left (List.getElem?_eq_some_iff.1 h.h3).1]; exact h.h3,
    by rw [List.getElem?_append_left (List.getElem?_eq_some_iff.1 h.hi).1]; exact h.hi, h.i4, h.hv.app⟩
theorem HpK.setAt {σ : List O} {P v id a l} (h : HpK σ P v id a l) (a' : Nat) : HpK (σ.set id (.row 0 [.i .i64 a'])) P v id a' l := by
  have hlt := (List.getElem?_eq_some_iff.1 h.hi).1
  have := h.i4
  exact ⟨by rw [List.getElem?_set_ne (by omega)]; exact h.h2, by rw [List.getElem?_set_ne (by omega)]; exact h.h3, List.getElem?_set_self hlt, h.i4, h.hv.set (.inr h.hi)⟩
/-- The cell of the place, anew. -/
theorem HpK.fresh {σ : List O} {P v id a l} (h : HpK σ P v id a l) : HpK (σ ++ [.row 0 [.i .i64 a]]) P v σ.length a l := by
  have := (List.getElem?_eq_some_iff.1 h.hi).1
  have := h.i4
  have h' := h.app (g := [.row 0 [.i .i64 a]])
  exact ⟨h'.h2, h'.h3, by simp, by omega, h'.hv⟩
theorem HpK.len {σ : List O} {P v id a l} (h : HpK σ P v id a l) : 5 ≤ σ.length := by
  have := (List.getElem?_eq_some_iff.1 h.hi).1
  have := h.i4
  omega

theorem set_app0 {σ : List O} {x y : O} : (σ ++ [x]).set σ.length y = σ ++ [y] := by
  rw [List.set_append_right _ _ (Nat.le_refl _)]; simp
theorem frz_all {σ : List O} {v : V} {l : List (Int × Int)} (h : AllC σ v l) : frz 2 0 σ v = slL l l.isEmpty := by
  rcases h with ⟨rfl, rfl⟩ | ⟨id, ver, h1, rfl, h3, hne⟩
  · exact frz_pure (by simp)
  · rw [frz]
    simp only [V.pure, Bool.false_eq_true, if_false, Nat.not_lt.2 (Nat.zero_le _), h3]
    rw [if_pos ⟨trivial, by simp⟩]
    have e : List.take (l.length * 2) (List.drop 0 (lsV l)) = lsV l := by rw [List.drop_zero]; exact List.take_of_length_le (by simp)
    rw [e, map_frz pure_lsV]
    have : l.isEmpty = false := by cases l with | nil => exact absurd rfl hne | cons => rfl
    rw [this]

theorem frz_pair {σ : List O} {v : V} {l : List (Int × Int)} {e : Int} (h : AllC σ v l) : frz 3 0 σ (.tup [v, .i .i64 e]) = .tup [slL l l.isEmpty, .i .i64 e] := by
  have h2 := frz_all h
  rw [frz]
  split
  · rename_i hp
    simp only [V.pure, pureL, Bool.and_eq_true] at hp
    have : frz 2 0 σ v = v := frz_pure hp.1
    rw [← h2, this]
  · simp only [List.map_cons, List.map_nil, h2]
    rw [frz_pure rfl]

def cutR (t b : List Int) (r : Ru) : List (Int × Int) := if openE t b [r] = 0 then cutL t b r else []

theorem cut_ok {t b : List Int} {ft fb : Bool} {r : Ru} (hsz : Sz t b) : FSpec Try.prog 28 [.agg [sl t ft, sl b fb], .agg r.cells] [] (.tup [slL (cutR t b r) (cutR t b r).isEmpty, .i .i64 (openE t b [r])]) [] := by
  refine fn28.spec0 mixed itT_ok ?_
  rw [ic28]
  have h7 : List.take 7 r.cells = r.cells := rfl
  refine ab_seq_k fun K1 h1 => ?_
  simp
  refine h1 _ _ _ ?_
  clear h1 K1
  refine ab_seq_k fun K2 h2 => ?_
  simp [h7]
  refine callK_of (open1 hsz) ?_
  simp
  refine h2 _ _ _ ?_
  clear h2 K2
  refine ab_seq_k fun K3 h3 => ?_
  refine ab_seq_k fun K4 h4 => ?_
  simp
  refine h4 _ _ _ ?_
  clear h4 K4
  refine ab_cond_of rfl (fun hc => ?_) (fun hc => ?_)
  · simp at hc
    refine ab_seq_k fun K5 h5 => ?_
    simp
    refine h5 _ _ _ ?_
    simp
    exact fin_of 3 (by simp [rs28, cutR, hc, slL, lsV])
  simp at hc
  obtain ⟨ok, hov⟩ := open_some (ft := ft) (fb := fb) hsz hc
  have okk := ok
  obtain ⟨n2, n61, tv, bl, hr⟩ := ok
  rw [hov]
  have hyp := pure_yard (t := t) (ft := ft) (b := b) (fb := fb) (kn := knownK t b r)
  have hlong : ∀ σ, FSpec Try.prog 66 [yardV t ft b fb (knownK t b r)] σ (.i .i64 ((t.length : Int) - 1)) σ := fun σ =>
    FSpec.frame (long_ok (cells := [sl t ft, sl b fb, knownV (knownK t b r)]) (off := 0) (t := ints t) (n := t.length) (full := ft) rfl (by omega)) (by simp [yardV] at hyp ⊢) rfl
  have hlogs : ∀ (fr : Int) σ, FSpec Try.prog 67 [yardV t ft b fb (knownK t b r), .i .i64 fr] σ (.f (.func 84) [] [.sp [.i .i64 fr] 0, .sp [yardV t ft b fb (knownK t b r)] 0]) σ := fun fr σ =>
    FSpec.frame (logs_ok (cells := [sl t ft, sl b fb, knownV (knownK t b r)]) (off := 0) (fr := fr) (by simp)) (by simp) (by simp)
  have hit : ∀ {fr : Nat}, fr < t.length → ItT 84 [] [.sp [.i .i64 fr] 0, .sp [yardV t ft b fb (knownK t b r)] 0] ((logsUp (knownK t b r) fr (t.length - 1 - fr)).map (logV fr)) (fun _ => true = true) := fun h => logs_it (by omega) n61 h
  have hprices := fun σ => pricesAll (ft := ft) (fb := fb) okk (σ := σ)
  have hcut : cutR t b r = cutG (restN t b r allL) (knownK t b r) (t.length - 1) (t.length - 1) 0 := by simp only [cutR, hc, if_true]; rfl
  have hrl : ∀ i, i ≤ t.length - 1 → 0 ≤ restN t b r allL i ∧ restN t b r allL i ≤ 12960000 := fun i hi => restN_le hr tv n61 hi
  have hup : ∀ {a : Nat} {p : Int × Int}, a < t.length - 1 → p ∈ logsUp (knownK t b r) a (t.length - 1 - a) → a < p.1.toNat ∧ 0 ≤ p.1 ∧ p.1.toNat ≤ t.length - 1 ∧ 0 ≤ p.2 ∧ p.2 ≤ 216000 := by
    intro a p ha hp
    obtain ⟨i, hi, hpe, hpos⟩ := logsUp_mem hp
    obtain ⟨to, sv⟩ := p
    simp only [Prod.mk.injEq] at hpe
    obtain ⟨hto, hsv⟩ := hpe
    have := look_known (t := t) (b := b) hr (x := a) (y := (a : Int) + 1 + i) (by omega) (by omega) (by omega)
    have hb := scN_bounds (t := t) (b := b) hr tv (i := a) (j := a + 1 + i)
    unfold scN at hb
    rw [show ((a + 1 + i : Nat) : Int) = (a : Int) + 1 + i by omega, ← this, ← hsv] at hb
    simp only at hpos ⊢
    exact ⟨by omega, by omega, by omega, by omega, by omega⟩
  generalize hkn : knownK t b r = kn at *
  generalize hyd : yardV t ft b fb kn = y at *
  generalize hes : openE t b [r] = es at *
  subst hc
  generalize hvd : restN t b r allL = vv at *
  have hPget : ∀ i, i ≤ t.length - 1 → (outA 61 (valP t b r (fun _ _ => true)) 0)[i]? = some (vv i) := by
    intro i hi
    rw [outA_get (by omega), if_pos (Nat.zero_le _), valP_all hi, hvd]
  have hPl : (outA 61 (valP t b r (fun _ _ => true)) 0).length = 61 := by simp
  generalize hPd : outA 61 (valP t b r (fun _ _ => true)) 0 = P at *
  simp
  refine h3 _ _ _ ?_
  clear h3 K3
  refine ab_seq_k fun K6 h6 => ?_
  simp [-List.reduceReplicate]
  refine callK_of (hprices _) ?_
  simp [-List.reduceReplicate, hPl]
  refine h6 _ _ _ ?_
  clear h6 K6
  refine ab_seq_k fun K7 h7' => ?_
  simp
  refine h7' _ _ _ ?_
  clear h7' K7
  refine ab_seq_k fun K8 h8 => ?_
  simp
  refine h8 _ _ _ ?_
  clear h8 K8
  refine ab_seq_k fun K9 h9 => ?_
  refine ab_seq_k fun K10 h10 => ?_
  simp
  refine h10 _ _ _ ?_
  clear h10 K10
  refine ab_block_k fun K11 h11 => ?_
  refine ab_loop_k (fun m env σ => ∃ (a k : Nat) (v : V) (id : Nat) (out : List (Int × Int)), m = t.length - 1 - a ∧ a ≤ t.length - 1 ∧ t.length - 1 - a ≤ k ∧ out.length ≤ a ∧ cutR t b r = out ++ cutG vv kn (t.length - 1) k a ∧
    env = [(6, y), (8, .p 2 0 0), (9, .p 3 0 0), (10, .p id 0 0)] ∧ HpK σ P v id a out) (t.length - 1)
    ⟨0, t.length - 1, .ss [] 0 true, 4, [], by omega, by omega, by omega, by simp, by simpa using hcut, by simp, ⟨by simp, by simp, by simp, by omega, .inl ⟨rfl, rfl⟩⟩⟩ ?_
  rintro m env σ ⟨a, k, v, id, out, rfl, ha, hk, hol, hcr, rfl, hp⟩ K12 h12
  rw [ic28_1]
  have hi := hp.hi
  have h2' := hp.h2
  have h3' := hp.h3
  refine ab_seq_k fun K13 h13 => ?_
  refine ab_seq_k fun K14 h14 => ?_
  simp [hi]
  refine callK_of (hlong _) ?_
  simp
  refine h14 _ _ _ ?_
  clear h14 K14
  refine ab_cond_of rfl (fun hc2 => ?_) (fun hc2 => ?_)
  · have hlt : a < t.length - 1 := by simp at hc2; omega
    obtain ⟨k, rfl⟩ : ∃ k', k = k' + 1 := ⟨k - 1, by omega⟩
    simp
    refine h13 _ _ _ ?_
    clear h13 K13
    refine ab_seq_k fun K15 h15 => ?_
    have next : ∀ {env : Env} {σ' : List O} {v' : V} {a' k' : Nat} {out' : List (Int × Int)}, get env 6 = y → get env 8 = .p 2 0 0 → get env 9 = .p 3 0 0 → get env 10 = .p id 0 0 → HpK σ' P v' id a' out' → a < a' → a' ≤ t.length - 1 → t.length - 1 - a' ≤ k' →
        out'.length ≤ a' → cutR t b r = out' ++ cutG vv kn (t.length - 1) k' a' → K15 (some 0) env σ' := by
      intro env σ' v' a' k' out' g1 g2 g3 g4 hp' q1 q2 q3 q4 q5
      refine h15 _ _ _ ?_
      refine ab_seq_k fun K16 h16 => ?_
      simp [g1, g2, g3, g4, hp'.hi]
      refine h16 _ _ _ ?_
      simp [set_app0]
      exact h12 _ _ _ (again (t.length - 1 - a') (by omega) ⟨a', k', v', σ'.length, out', rfl, q2, q3, q4, q5, by simp, hp'.fresh⟩)
    clear h15 h12
    refine ab_block_k fun K17 h17 => ?_
    refine ab_seq_k fun K18 h18 => ?_
    refine ab_seq_k fun K19 h19 => ?_
    have g1 := hPget a (by omega)
    have g2 := hPget (a + 1) (by omega)
    obtain ⟨f1, k1⟩ := List.getElem?_eq_some_iff.1 g1
    obtain ⟨f2, k2⟩ := List.getElem?_eq_some_iff.1 g2
    have e1 : ((a : Int) + 1).toNat = a + 1 := by omega
    have e2 : (a : Int) + 1 < 61 := by omega
    have e3 : (0 : Int) ≤ (a : Int) + 1 := by omega
    have e4 : (a : Int) < 61 := by omega
    simp [hi, h2', e1, e2, e3, e4, g1, g2, k1, k2, wrap64 (x := (a : Int) + 1) (by omega) (by omega)]
    refine h19 _ _ _ ?_
    clear h19 K19
    refine ab_cond_of rfl (fun hc3 => ?_) (fun hc3 => ?_)
    · have heq : vv a = vv (a + 1) := by simpa using hc3
      refine ab_seq_k fun K20 h20 => ?_
      simp [hi, wrap64 (x := (a : Int) + 1) (by omega) (by omega)]
      refine h20 _ _ _ ?_
      simp
      refine h17 _ _ _ (next (a' := a + 1) (k' := k) (by simp) (by simp) (by simp) (by simp) (by have := hp.setAt (a + 1); simpa using this) (by omega) (by omega) (by omega) (by omega) ?_)
      rw [hcr]
      simp only [cutG]
      rw [if_pos hlt, if_pos heq]
    · have hne : ¬ vv a = vv (a + 1) := by simpa using hc3
      simp
      refine h18 _ _ _ ?_
      clear h18 K18
      refine ab_seq_k fun K21 h21 => ?_
      refine ab_seq_k fun K22 h22 => ?_
      simp [hi]
      refine callK_of (hlogs _ _) ?_
      simp
      refine h22 _ _ _ ?_
      clear h22 K22
      refine ab_block_k fun K23 h23 => ?_
      refine ⟨_, _, hit (fr := a) (by omega), fun i σ' => (∃ g, σ' = σ ++ g) ∧ ∀ p ∈ (logsUp kn a (t.length - 1 - a)).take i, ¬ vv a = p.2 + vv p.1.toNat, fun _ _ _ => rfl, ⟨⟨[], by simp⟩, by simp⟩, ?_, ?_⟩
      · rintro i x σ' hx ⟨⟨g, rfl⟩, hno⟩
        rw [List.getElem?_map, Option.map_eq_some_iff] at hx
        obtain ⟨p, hpi, rfl⟩ := hx
        have hpm := List.mem_of_getElem? hpi
        obtain ⟨b1, b2, b3, b4, b5⟩ := hup hlt hpm
        have htake : (logsUp kn a (t.length - 1 - a)).take (i + 1) = (logsUp kn a (t.length - 1 - a)).take i ++ [p] := by rw [List.take_add_one, hpi]; rfl
        have hvp := hrl p.1.toNat (by omega)
        have g3 := hPget p.1.toNat (by omega)
        obtain ⟨f3, k3⟩ := List.getElem?_eq_some_iff.1 g3
        have e5 : p.1 < 61 := by omega
        refine ⟨rfl, ?_⟩
        generalize hKR : roundK _ _ _ = KR
        have hfin : ∀ env σ2, ((∃ g, σ2 = σ ++ g) ∧ ∀ p ∈ (logsUp kn a (t.length - 1 - a)).take (i + 1), ¬ vv a = p.2 + vv p.1.toNat) → KR (some 0) env σ2 := by
          intro env σ2 h
          rw [← hKR]
          exact ⟨rfl, .inl h⟩
        clear hKR
        refine ab_seq_k fun K24 h24 => ?_
        simp [logV]
        refine h24 _ _ _ ?_
        simp
        have hpg := (hp.app (g := g)).app (g := [.row 0 [.i .i64 a, .i .i64 p.1]])
        rw [List.append_assoc] at hpg
        rw [ic28_0]
        refine ab_block_k fun K25 h25 => ?_
        refine ab_seq_k fun K26 h26 => ?_
        have hl11 : (σ ++ (g ++ [O.row 0 [.i .i64 a, .i .i64 p.1]]))[σ.length + g.length]? = some (.row 0 [.i .i64 a, .i .i64 p.1]) := by
          rw [← List.append_assoc, List.getElem?_append_right (by simp)]; simp
        have hS : ∃ g', σ ++ (g ++ [O.row 0 [.i .i64 a, .i .i64 p.1]]) = σ ++ g' := ⟨_, rfl⟩
        generalize σ ++ (g ++ [O.row 0 [.i .i64 a, .i .i64 p.1]]) = S at *
        have hil0 : σ.length ≤ σ.length + g.length := by omega
        generalize σ.length + g.length = il at *
        have s2 := hpg.h2
        have s3 := hpg.h3
        have si := hpg.hi
        simp [s2, s3, si, hl11, e4, e5, b2, g1, k1, g3, k3, wrap64 (x := p.2 + vv p.1.toNat) (by omega) (by omega)]
        refine h26 _ _ _ ?_
        clear h26 K26
        refine ab_cond_of rfl (fun hc4 => ?_) (fun hc4 => ?_)
        · have hmt : vv a = p.2 + vv p.1.toNat := by simpa using hc4
          have hfind : (logsUp kn a (t.length - 1 - a)).find? (fun p => decide (vv a = p.2 + vv p.1.toNat)) = some p := by
            obtain ⟨hil, hgi⟩ := List.getElem?_eq_some_iff.1 hpi
            rw [List.find?_eq_some_iff_getElem]
            refine ⟨by simpa using hmt, i, hil, hgi, fun j hj => ?_⟩
            have := hno ((logsUp kn a (t.length - 1 - a))[j]'(by omega)) (by
              rw [List.mem_iff_getElem?]
              exact ⟨j, by rw [List.getElem?_take, if_pos hj, List.getElem?_eq_getElem]⟩)
            simpa using this
          refine ab_seq_k fun K27 h27 => ?_
          simp [s3]
          refine lenC_all hpg.hv ?_
          simp [s3]
          refine lenC_all hpg.hv ?_
          simp [s3]
          refine slcC_all hpg.hv ?_
          simp [hl11]
          refine appC_all hpg.hv (by have := hpg.len; omega) (by omega) ?_
          intro v' S' hv' hkeep
          have hone := hv'.one
          have t3 : S'[3]? = some (.row 0 [v]) := hkeep.2.2.1 3 _ s3
          have ti : S'[id]? = some (.row 0 [.i .i64 a]) := hkeep.2.2.1 id _ si
          have t2 : S'[2]? = some (.row 0 (ints P)) := by rw [hkeep.2.1 2 (by omega) (by have := hpg.len; omega)]; exact s2
          have tl : S'[il]? = some (.row 0 [.i .i64 a, .i .i64 p.1]) := by
            rw [hkeep.2.2.2 il (List.getElem?_eq_some_iff.1 hl11).1 (fun ver off n es hE => ?_)]
            · exact hl11
            · rcases hp.hv with ⟨-, h⟩ | ⟨sid, sver, -, h, hs, -⟩
              · rw [hE] at h; cases h
              · rw [hE] at h
                cases h
                have := (List.getElem?_eq_some_iff.1 hs).1
                omega
          have i4 := hp.i4
          have hpS : HpK (S'.set 3 (.row 0 [v'])) P v' id a (out ++ [((a : Int), p.1)]) :=
            ⟨by rw [List.getElem?_set_ne (by omega)]; exact t2, List.getElem?_set_self (List.getElem?_eq_some_iff.1 t3).1, by rw [List.getElem?_set_ne (by omega)]; exact ti, i4, hv'.set (c := .u) (.inl (by omega))⟩
          have tl2 : (S'.set 3 (.row 0 [v']))[il]? = some (.row 0 [.i .i64 a, .i .i64 p.1]) := by
            rw [List.getElem?_set_ne (by have := hp.len; omega)]; exact tl
          simp [t3, hone]
          refine h27 _ _ _ ?_
          clear h27 K27
          generalize S'.set 3 (.row 0 [v']) = T at *
          refine ab_seq_k fun K28 h28 => ?_
          simp [tl2, hpS.hi]
          refine h28 _ _ _ ?_
          simp [exitK_const]
          refine h17 _ _ _ (next (a' := p.1.toNat) (k' := k) (by simp) (by simp) (by simp) (by simp) (by have := hpS.setAt p.1.toNat; rw [show ((p.1.toNat : Nat) : Int) = p.1 by omega] at this; exact this) (by omega) (by omega) (by omega) (by simp; omega) ?_)
          rw [hcr]
          simp only [cutG]
          rw [if_pos hlt, if_neg hne, hfind, List.append_assoc]
          rfl
        · have hmt : ¬ vv a = p.2 + vv p.1.toNat := by simpa using hc4
          simp
          refine h25 _ _ _ (hfin _ _ ⟨hS, fun q hq => ?_⟩)
          rw [htake] at hq
          rcases List.mem_append.1 hq with hq | hq
          · exact hno q hq
          · simp at hq; subst hq; exact hmt
      · rintro σ' ⟨⟨g, rfl⟩, hno⟩
        refine h23 _ _ _ ?_
        refine h21 _ _ _ ?_
        simp
        refine h11 _ _ _ ?_
        refine h9 _ _ _ ?_
        have hg' := hp.app (g := g)
        refine ab_seq_k fun K30 h30 => ?_
        simp [hg'.h3]
        refine h30 _ _ _ ?_
        simp
        have hnone : (logsUp kn a (t.length - 1 - a)).find? (fun p => decide (vv a = p.2 + vv p.1.toNat)) = none := by
          rw [List.find?_eq_none]
          intro p hp'
          rw [List.length_map, List.take_length] at hno
          simpa using hno p hp'
        have : cutR t b r = out := by
          rw [hcr]
          simp only [cutG]
          rw [if_pos hlt, if_neg hne, hnone, List.append_nil]
        rw [this]
        refine fin_of 3 ?_
        refine ⟨?_, .inr trivial⟩
        exact frz_pair hg'.hv
  · have hal : a = t.length - 1 := by simp at hc2; omega
    subst hal
    simp
    refine h11 _ _ _ ?_
    refine h9 _ _ _ ?_
    refine ab_seq_k fun K30 h30 => ?_
    simp [h3']
    refine h30 _ _ _ ?_
    simp
    have : cutR t b r = out := by
      rw [hcr, cutG_end (Nat.le_refl _), List.append_nil]
    rw [this]
    refine fin_of 3 ?_
    refine ⟨?_, .inr trivial⟩
    exact frz_pair hp.hv
end Go.Ab
end

section
/- The law ScaleCuts: it returns true. -/
set_option linter.unusedVariables false
set_option linter.unusedSimpArgs false
set_option maxHeartbeats 4000000
namespace Go.Ab
open Go Go.Proofs

theorem scaleCuts {t b : List Int} {ft fb : Bool} {r : Ru} {l : List (Int × Int)} {fl : Bool} (ht : (t.length : Int) < 9223372036854775808) (hb : (b.length : Int) < 9223372036854775808) (hl : (l.length : Int) < 9223372036854775808) (hbb : ∀ x ∈ b, -9223372036854775808 ≤ x ∧ x < 9223372036854775808) :
    FSpec Try.prog 4 [.agg [sl t ft, sl b fb], .agg r.cells, slL l fl] [] (.b true) [] := by
  refine fn4.spec0 mixed noIt_ok ?_
  rw [ic4]
  have h7 : List.take 7 r.cells = r.cells := rfl
  have finish : ∀ {env σ K E}, ab Try.prog noY noIt 0 ((IC.reg [IS.call (some 26) none 17 [], IS.op (some 6) none (IOp.mov (Od.t 26))] (some [6])).seq IC.ret) K E (finK rs4 [] (V.b true) []) (some 0) env σ := by
    intro env σ K E
    refine ab_seq_k fun K1 h1 => ?_
    simp
    refine callK_of works0 ?_
    simp
    refine h1 _ _ _ ?_
    simp
    exact fin_of 1 (by simp [rs4])
  refine ab_seq_k fun K1 h1 => ?_
  simp
  refine h1 _ _ _ ?_
  clear h1 K1
  refine ab_seq_k fun K2 h2 => ?_
  refine ab_seq_k fun K3 h3 => ?_
  simp
  refine callK_of (FSpec.frame (great_ok (t := t) (b := b) ht hb) (by simp) rfl) ?_
  simp
  have c1 : ∀ {env v}, get env 25 = .b v → get env 2 = slL l fl → get env 3 = .p 0 0 0 → get env 4 = .p 1 0 0 → v = (decide (70 < t.length) || decide (70 < b.length) || decide (70 < l.length)) → K3 (some 0) env (hpB t b ft fb r) := by
    intro env v e1 e2 e3 e4 hv
    refine h3 _ _ _ ?_
    refine ab_cond_of e1 (fun hc => finish) (fun hc => ?_)
    rw [hc] at hv
    have hv := hv.symm
    simp only [Bool.or_eq_false_iff, decide_eq_false_iff_not] at hv
    have hsz : Sz t b := ⟨by omega, by omega, hbb⟩
    have hl2 : (l.length : Int) < 1000000000 := by omega
    simp
    refine h2 _ _ _ ?_
    clear h2 h3
    refine ab_seq_k fun K5 h5 => ?_
    simp [e2, e3, e4, hpB, h7]
    refine callK_of (FSpec.frame (checkCut_ok (ft := ft) (fb := fb) (r := r) (l := l) (fl := fl) hsz hl2) (by simp) (by simp [pairV])) ?_
    simp [pairV]
    refine h5 _ _ _ ?_
    clear h5 K5
    refine ab_seq_k fun K6 h6 => ?_
    simp [e2, e3, e4, h7]
    refine callK_of (FSpec.frame (refCut (ft := ft) (fb := fb) (r := r) (l := l) (fl := fl) hsz hl2) (by simp) (by simp [pairV])) ?_
    simp [pairV]
    refine h6 _ _ _ ?_
    clear h6 K6
    refine ab_seq_k fun K7 h7' => ?_
    simp [e3, e4, h7]
    refine callK_of (FSpec.frame (best_ok (ft := ft) (fb := fb) (r := r) hsz) (by simp) (by simp [pairV])) ?_
    simp [pairV]
    refine h7' _ _ _ ?_
    clear h7' K7
    refine ab_seq_k fun K8 h8 => ?_
    simp [e3, e4, h7]
    refine callK_of (FSpec.frame (refBest (ft := ft) (fb := fb) (r := r) hsz) (by simp) (by simp [pairV])) ?_
    simp [pairV]
    refine h8 _ _ _ ?_
    clear h8 K8
    refine ab_seq_k fun K9 h9 => ?_
    simp [e3, e4, h7]
    refine callK_of (FSpec.frame (cut_ok (ft := ft) (fb := fb) (r := r) hsz) (by simp) (by simp)) ?_
    simp
    refine h9 _ _ _ ?_
    clear h9 K9
    have hbs : (bestP t b r).2 = openE t b [r] := by
      unfold bestP
      split
      · rfl
      · rename_i h; exact (Classical.not_not.1 h).symm
    refine ab_seq_k fun K10 h10 => ?_
    refine ab_seq_k fun K11 h11 => ?_
    simp [hbs]
    refine h11 _ _ _ ?_
    clear h11 K11
    refine ab_cond_of rfl (fun hc => by cases hc) (fun _ => ?_)
    simp
    refine h10 _ _ _ ?_
    clear h10
    refine ab_seq_k fun K13 h13 => ?_
    refine ab_seq_k fun K14 h14 => ?_
    simp
    refine h14 _ _ _ ?_
    clear h14 K14
    refine ab_cond_of rfl (fun hc2 => ?_) (fun hc2 => ?_)
    · have hE : openE t b [r] ≠ 0 := by simpa using hc2
      have hR : cutR t b r = [] := by simp [cutR, hE]
      rw [hR]
      refine ab_seq_k fun K15 h15 => ?_
      simp [slL, lsV]
      refine callK_of works0 ?_
      simp
      refine h15 _ _ _ ?_
      simp
      exact fin_of 1 (by simp [rs4])
    · have hE : openE t b [r] = 0 := by simpa using hc2
      obtain ⟨ok, -⟩ := open_some (ft := ft) (fb := fb) hsz hE
      have hR : cutR t b r = cutL t b r := by simp [cutR, hE]
      have hbest := cutL_best ok hE
      have hb1 : (bestP t b r).1 = restN t b r allL 0 := by simp [bestP, hE]
      have hlc : ((cutL t b r).length : Int) < 1000000000 := by
        obtain ⟨-, -, -, q4⟩ := cutG_ok ok (k := t.length - 1) (a := 0) (by omega) (by omega)
        unfold cutL; omega
      rw [hR]
      simp
      refine h13 _ _ _ ?_
      clear h13
      refine ab_seq_k fun K16 h16 => ?_
      simp [h7]
      refine callK_of (FSpec.frame (refCut (ft := ft) (fb := fb) (r := r) (l := cutL t b r) (fl := (cutL t b r).isEmpty) hsz hlc) (by simp) (by simp [pairV])) ?_
      simp [pairV, hbest]
      refine h16 _ _ _ ?_
      clear h16 K16
      refine ab_seq_k fun K17 h17 => ?_
      simp [hb1]
      refine callK_of works0 ?_
      simp
      refine h17 _ _ _ ?_
      simp
      exact fin_of 1 (by simp [rs4])
  by_cases hg : 70 < t.length ∨ 70 < b.length
  · have hg' : (decide (70 < t.length) || decide (70 < b.length)) = true := by simpa using hg
    simp [hg']
    refine c1 (v := true) rfl rfl rfl rfl ?_
    rw [hg']; rfl
  · have hg' : (decide (70 < t.length) || decide (70 < b.length)) = false := by simpa using hg
    simp [hg']
    refine c1 (v := decide (70 < (l.length : Int))) rfl rfl rfl rfl ?_
    rw [hg', Bool.false_or, Bool.eq_iff_iff]
    simp
    omega
end Go.Ab
end
