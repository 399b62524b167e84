/- The rule: sorting, Sooner. -/
import Derived.Test.YtkcfknlpdfgjnaaLP
set_option linter.unusedVariables false
set_option linter.unusedSimpArgs false
set_option maxHeartbeats 4000000
namespace Go.Ab
open Go Go.Proofs

/-- Put before all of the end that come later; on the list turned round. -/
def insV (lt : Int → Int → Bool) (x : Int) : List Int → List Int
  | [] => [x]
  | y :: r => if lt x y = true then y :: insV lt x r else x :: y :: r
def insB (lt : Int → Int → Bool) (l : List Int) (x : Int) : List Int := (insV lt x l.reverse).reverse
def sortB (lt : Int → Int → Bool) (l : List Int) : List Int := l.foldl (insB lt) []
theorem insV_all {lt : Int → Int → Bool} {x : Int} : ∀ {B A : List Int}, (∀ y ∈ B, lt x y = true) → insV lt x (B ++ A) = B ++ insV lt x A
  | [], A, _ => rfl
  | y :: B, A, h => by
    rw [List.cons_append, insV, if_pos (h y (List.mem_cons_self ..)), insV_all (B := B) (fun z hz => h z (List.mem_cons_of_mem _ hz))]
    rfl
theorem insV_none {lt : Int → Int → Bool} {x : Int} : ∀ {B A : List Int}, (∀ y ∈ A, ¬ lt x y = true) → insV lt x (B ++ A) = insV lt x B ++ A
  | [], [], _ => rfl
  | [], y :: A, h => by
    show insV lt x (y :: A) = x :: y :: A
    rw [insV, if_neg (h y (List.mem_cons_self ..))]
  | y :: B, A, h => by
    rw [List.cons_append, insV, insV, insV_none (B := B) h]
    split <;> rfl
theorem insB_all {lt : Int → Int → Bool} {x : Int} {A B : List Int} (h : ∀ y ∈ B, lt x y = true) : insB lt (A ++ B) x = insB lt A x ++ B := by
  unfold insB
  rw [List.reverse_append, insV_all (fun y hy => h y (List.mem_reverse.1 hy)), List.reverse_append, List.reverse_reverse]
theorem insB_none {lt : Int → Int → Bool} {x : Int} {A B : List Int} (h : ∀ y ∈ A, ¬ lt x y = true) : insB lt (A ++ B) x = A ++ insB lt B x := by
  unfold insB
  rw [List.reverse_append, insV_none (fun y hy => h y (List.mem_reverse.1 hy)), List.reverse_append, List.reverse_reverse]
theorem insB_at {lt : Int → Int → Bool} {x : Int} {l : List Int} {j : Nat} (h1 : ∀ y ∈ l.drop j, lt x y = true) (h2 : ∀ y, 0 < j → l[j - 1]? = some y → ¬ lt x y = true) (hj : j ≤ l.length) : insB lt l x = l.take j ++ x :: l.drop j := by
  have e : l = l.take j ++ l.drop j := (List.take_append_drop j l).symm
  have : insB lt l x = insB lt (l.take j) x ++ l.drop j := by
    rw [← insB_all h1, List.take_append_drop]
  rw [this]
  cases j with
  | zero => simp [insB, insV]
  | succ j =>
    have hjl : j < l.length := by omega
    have hy : l[j]? = some l[j] := List.getElem?_eq_getElem hjl
    have hn := h2 l[j] (by omega) hy
    have ht : l.take (j + 1) = l.take j ++ [l[j]] := by rw [List.take_add_one, hy]; rfl
    rw [ht]
    unfold insB
    rw [List.reverse_append, List.reverse_singleton, List.singleton_append, insV, if_neg hn]
    simp
theorem insB_mem {lt : Int → Int → Bool} {x y : Int} {l : List Int} : y ∈ insB lt l x ↔ y = x ∨ y ∈ l := by
  have : ∀ l : List Int, y ∈ insV lt x l ↔ y = x ∨ y ∈ l := by
    intro l
    induction l with
    | nil => simp [insV]
    | cons z r ih =>
      rw [insV]
      split
      · rw [List.mem_cons, ih, List.mem_cons]
        constructor <;> intro h <;> rcases h with h | h | h <;> simp [h]
      · simp
  unfold insB
  rw [List.mem_reverse, this, List.mem_reverse]
theorem insB_len {lt : Int → Int → Bool} {x : Int} {l : List Int} : (insB lt l x).length = l.length + 1 := by
  have : ∀ l : List Int, (insV lt x l).length = l.length + 1 := by
    intro l
    induction l with
    | nil => rfl
    | cons z r ih => rw [insV]; split <;> simp [ih]
  unfold insB
  rw [List.length_reverse, this, List.length_reverse]
theorem sortB_snoc {lt : Int → Int → Bool} {l : List Int} {x : Int} : sortB lt (l ++ [x]) = insB lt (sortB lt l) x := by simp [sortB]
theorem sortB_len {lt : Int → Int → Bool} {l : List Int} : (sortB lt l).length = l.length := by
  have : ∀ (l acc : List Int), (l.foldl (insB lt) acc).length = acc.length + l.length := by
    intro l
    induction l with
    | nil => intro acc; rfl
    | cons x l ih => intro acc; rw [List.foldl_cons, ih, insB_len, List.length_cons]; omega
  rw [sortB, this]; simp
theorem sortB_mem {lt : Int → Int → Bool} {l : List Int} {y : Int} : y ∈ sortB lt l ↔ y ∈ l := by
  have : ∀ (l acc : List Int), y ∈ l.foldl (insB lt) acc ↔ y ∈ acc ∨ y ∈ l := by
    intro l
    induction l with
    | nil => intro acc; simp
    | cons x l ih =>
      intro acc
      rw [List.foldl_cons, ih, insB_mem, List.mem_cons]
      constructor
      · rintro ((h | h) | h)
        · exact .inr (.inl h)
        · exact .inl h
        · exact .inr (.inr h)
      · rintro (h | h | h)
        · exact .inl (.inr h)
        · exact .inl (.inl h)
        · exact .inr h
  rw [sortB, this]; simp

/-! ### The rule -/
def upP (T : Tw) (x : Int) : Bool := decide ((raft T x).1 ≤ (raft T x).2)
def soon (T : Tw) (a b : Int) : Bool :=
  if upP T a ≠ upP T b then upP T a
  else if upP T a = true ∧ (raft T a).1 ≠ (raft T b).1 then decide ((raft T a).1 < (raft T b).1)
  else if upP T a = false ∧ (raft T a).2 ≠ (raft T b).2 then decide ((raft T b).2 < (raft T a).2)
  else decide (a < b)
def ltA (T : Tw) (a b : Int) : Bool := decide ((raft T a).1 < (raft T b).1)
def ltB (T : Tw) (a b : Int) : Bool := decide ((raft T b).2 < (raft T a).2)
def ruleO (T : Tw) : List Int := sortB (soon T) (upTo T.length)
def upsL (T : Tw) (i : Nat) : List Int := (upTo i).filter (upP T)
def dnsL (T : Tw) (i : Nat) : List Int := (upTo i).filter (fun x => !upP T x)
theorem soon_split {T : Tw} : ∀ {i : Nat}, sortB (soon T) (upTo i) = sortB (ltA T) (upsL T i) ++ sortB (ltB T) (dnsL T i)
  | 0 => rfl
  | i + 1 => by
    have ih := soon_split (T := T) (i := i)
    have hA : ∀ a ∈ sortB (ltA T) (upsL T i), upP T a = true ∧ a < (i : Int) := by
      intro a ha
      rw [sortB_mem, upsL, List.mem_filter, upTo_mem] at ha
      exact ⟨ha.2, ha.1.2⟩
    have hB : ∀ b ∈ sortB (ltB T) (dnsL T i), upP T b = false ∧ b < (i : Int) := by
      intro b hb
      rw [sortB_mem, dnsL, List.mem_filter, upTo_mem] at hb
      exact ⟨by simpa using hb.2, hb.1.2⟩
    rw [upTo_succ, sortB_snoc, ih]
    cases hx : upP T (i : Int) with
    | true =>
      have e1 : upsL T (i + 1) = upsL T i ++ [(i : Int)] := by simp [upsL, upTo_succ, hx]
      have e2 : dnsL T (i + 1) = dnsL T i := by simp [dnsL, upTo_succ, hx]
      rw [e1, e2, sortB_snoc, insB_all (fun y hy => by have := hB y hy; simp [soon, hx, this.1])]
      congr 1
      have : ∀ l : List Int, (∀ a ∈ l, upP T a = true ∧ a < (i : Int)) → insV (soon T) i l = insV (ltA T) i l := by
        intro l
        induction l with
        | nil => intro _; rfl
        | cons y r ih2 =>
          intro h
          have hy := h y (List.mem_cons_self ..)
          have e : soon T (i : Int) y = ltA T (i : Int) y := by
            unfold soon ltA
            rw [hx, hy.1]
            simp only [ne_eq, not_true_eq_false, if_false, true_and]
            split
            · rfl
            · rename_i h3
              have h4 : ¬ (i : Int) < y := by omega
              simp only [Bool.true_eq_false, false_and, if_false]
              have h5 : (raft T (i : Int)).1 = (raft T y).1 := Classical.not_not.1 h3
              simp [h4, h5]
          rw [insV, insV, e, ih2 (fun a ha => h a (List.mem_cons_of_mem _ ha))]
      unfold insB
      rw [this _ (fun a ha => hA a (List.mem_reverse.1 ha))]
    | false =>
      have e1 : upsL T (i + 1) = upsL T i := by simp [upsL, upTo_succ, hx]
      have e2 : dnsL T (i + 1) = dnsL T i ++ [(i : Int)] := by simp [dnsL, upTo_succ, hx]
      rw [e1, e2, sortB_snoc, insB_none (fun y hy => by have := hA y hy; simp [soon, hx, this.1])]
      congr 1
      have : ∀ l : List Int, (∀ a ∈ l, upP T a = false ∧ a < (i : Int)) → insV (soon T) i l = insV (ltB T) i l := by
        intro l
        induction l with
        | nil => intro _; rfl
        | cons y r ih2 =>
          intro h
          have hy := h y (List.mem_cons_self ..)
          have e : soon T (i : Int) y = ltB T (i : Int) y := by
            unfold soon ltB
            rw [hx, hy.1]
            simp only [ne_eq, not_true_eq_false, if_false, true_and, Bool.false_eq_true, false_and]
            split
            · rfl
            · rename_i h3
              have h4 : ¬ (i : Int) < y := by omega
              have h5 : (raft T (i : Int)).2 = (raft T y).2 := Classical.not_not.1 h3
              simp [h4, h5]
          rw [insV, insV, e, ih2 (fun a ha => h a (List.mem_cons_of_mem _ ha))]
      unfold insB
      rw [this _ (fun a ha => hB a (List.mem_reverse.1 ha))]
theorem rule_split {T : Tw} : ruleO T = sortB (ltA T) (upsL T T.length) ++ sortB (ltB T) (dnsL T T.length) := soon_split

theorem sooner_ok {T : Tw} {ft : Bool} {room a b : Int} (ha0 : 0 ≤ a) (ha1 : a < (T.length : Int)) (hb0 : 0 ≤ b) (hb1 : b < (T.length : Int)) : FSpec Try.prog 66 [towV T ft room, .i .i64 a, .i .i64 b] [] (.b (soon T a b)) [] := by
  refine fn66.spec0 mixed noIt_ok ?_
  rw [ic66]
  obtain ⟨hr1, hr2⟩ := raft_get ha0 ha1
  obtain ⟨hs1, hs2⟩ := raft_get hb0 hb1
  obtain ⟨z1, z2, z3⟩ := lsV_get hr1
  obtain ⟨y1, y2, y3⟩ := lsV_get hs1
  have hma : min 2 (T.length * 2 - a.toNat * 2) = 2 := by omega
  have hmb : min 2 (T.length * 2 - b.toNat * 2) = 2 := by omega
  have hla : a.toNat * 2 + 2 ≤ T.length * 2 := by omega
  have hlb : b.toNat * 2 + 2 ≤ T.length * 2 := by omega
  refine ab_seq_k fun K1 h1 => ?_
  simp
  refine h1 _ _ _ ?_
  clear h1 K1
  refine ab_seq_k fun K2 h2 => ?_
  have hK2 : ∀ env σ' i7 i8, get env 1 = .i .i64 a → get env 2 = .i .i64 b → get env 7 = .p i7 0 0 → get env 8 = .p i8 0 0 → σ'[i7]? = some (.row 0 [.i .i64 (raft T a).1, .i .i64 (raft T a).2]) → σ'[i8]? = some (.row 0 [.i .i64 (raft T b).1, .i .i64 (raft T b).2]) → K2 (some 0) env σ' := by
    intro env σ' i7 i8 w1 w2 w7 w8 s7 s8
    refine h2 _ _ _ ?_
    clear h2 K2
    obtain ⟨h7, s7'⟩ := List.getElem?_eq_some_iff.1 s7
    obtain ⟨h8, s8'⟩ := List.getElem?_eq_some_iff.1 s8
    refine ab_seq_k fun K3 h3 => ?_
    simp [w1, w2, w7, w8, s7, s7', s8, s8']
    refine h3 _ _ _ ?_
    clear h3 K3
    have hs : soon T a b = if upP T a ≠ upP T b then upP T a
      else if upP T a = true ∧ (raft T a).1 ≠ (raft T b).1 then decide ((raft T a).1 < (raft T b).1)
      else if upP T a = false ∧ (raft T a).2 ≠ (raft T b).2 then decide ((raft T b).2 < (raft T a).2)
      else decide (a < b) := rfl
    have u1 : decide ((raft T a).1 ≤ (raft T a).2) = upP T a := rfl
    have u2 : decide ((raft T b).1 ≤ (raft T b).2) = upP T b := rfl
    generalize soon T a b = r at *
    rw [u1, u2]
    generalize upP T a = x at *
    generalize upP T b = y at *
    refine ab_seq_k fun K4 h4 => ?_
    refine ab_seq_k fun K5 h5 => ?_
    simp
    refine h5 _ _ _ ?_
    clear h5 K5
    refine ab_cond_of rfl (fun hc => ?_) (fun hc => ?_)
    · have hxy : x ≠ y := by simpa using hc
      refine ab_seq_k fun K6 h6 => ?_
      simp
      refine h6 _ _ _ ?_
      clear h6 K6
      simp
      exact fin_of 1 (by simp [rs66, hs, hxy])
    have hxy : x = y := by simpa using hc
    subst hxy
    simp at hs
    simp
    refine h4 _ _ _ ?_
    clear h4 K4
    refine ab_seq_k fun K4 h4 => ?_
    refine ab_seq_k fun K5 h5 => ?_
    cases x with
    | true =>
      simp at hs
      simp [w1, w2, w7, w8, s7, s7', s8, s8']
      refine h5 _ _ _ ?_
      clear h5 K5
      refine ab_cond_of rfl (fun hc => ?_) (fun hc => ?_)
      · have hne : ¬ (raft T a).1 = (raft T b).1 := by simpa using hc
        refine ab_seq_k fun K6 h6 => ?_
        simp [w7, w8, s7, s7', s8, s8']
        refine h6 _ _ _ ?_
        clear h6 K6
        simp
        exact fin_of 1 (by simp [rs66, hs, hne])
      · have hne : (raft T a).1 = (raft T b).1 := by simpa using hc
        simp
        refine h4 _ _ _ ?_
        refine ab_seq_k fun K7 h7 => ?_
        refine ab_seq_k fun K8 h8 => ?_
        simp
        refine h8 _ _ _ ?_
        refine ab_cond_of rfl (fun hc => by cases hc) (fun hc => ?_)
        simp
        refine h7 _ _ _ ?_
        refine ab_seq_k fun K9 h9 => ?_
        simp [w1, w2]
        refine h9 _ _ _ ?_
        clear h9 K9
        simp
        exact fin_of 1 (by simp [rs66, hs, hne])
    | false =>
      simp at hs
      simp [w1, w2, w7, w8, s7, s7', s8, s8']
      refine h5 _ _ _ ?_
      clear h5 K5
      refine ab_cond_of rfl (fun hc => by cases hc) (fun hc => ?_)
      simp
      refine h4 _ _ _ ?_
      refine ab_seq_k fun K7 h7 => ?_
      refine ab_seq_k fun K8 h8 => ?_
      simp [s7, s7', s8, s8']
      refine h8 _ _ _ ?_
      refine ab_cond_of rfl (fun hc => ?_) (fun hc => ?_)
      · have hne : ¬ (raft T a).2 = (raft T b).2 := by simpa using hc
        refine ab_seq_k fun K6 h6 => ?_
        simp [w7, w8, s7, s7', s8, s8']
        refine h6 _ _ _ ?_
        clear h6 K6
        simp
        exact fin_of 1 (by simp [rs66, hs, hne])
      · have hne : (raft T a).2 = (raft T b).2 := by simpa using hc
        simp
        refine h7 _ _ _ ?_
        refine ab_seq_k fun K9 h9 => ?_
        simp [w1, w2]
        refine h9 _ _ _ ?_
        clear h9 K9
        simp
        exact fin_of 1 (by simp [rs66, hs, hne])
  rw [ab_alt_two, ab_alt_one]
  refine ⟨?_, ?_⟩
  · simp [abDs_consU, drU, recheck_cons, recheck_nil, rcK, IS.dst, get0_towC, ha0, ha1, hb0, hb1, z1, y1, hma, hmb, hla, hlb]
    exact hK2 _ _ 1 2 rfl rfl rfl rfl rfl rfl
  · simp [abDs_consU, drU, recheck_cons, recheck_nil, rcK, IS.dst, get0_towC, ha0, ha1, hb0, hb1, z1, y1, hma, hmb, hla, hlb]
    exact hK2 _ _ 2 1 rfl rfl rfl rfl rfl rfl
end Go.Ab
