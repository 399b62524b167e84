/- Rule, of the reference. -/
import Derived.Test.YtkcfknlpdfgjnaaLQ
set_option linter.unusedVariables false
set_option linter.unusedSimpArgs false
set_option maxHeartbeats 4000000
namespace Go.Ab
open Go Go.Proofs

def ruleP (T : Tw) (room : Int) : V := if checkTow T room = 0 then .tup [sl (ruleO T) false, .i .i64 0] else .tup [.ss [] 0 true, .i .i64 (checkTow T room)]
/-- A slice of so many numbers, as the loops hold it. -/
def grV (id n : Nat) : V := if n = 0 then .ss [] 0 true else .s id (n - 1) 0 n 1
def grH (l : List Int) : List O := if l.length = 0 then [] else [.row (l.length - 1) (ints l)]
/-- x at the place j. -/
def atJ (l : List Int) (x : Int) (j : Nat) : List Int := l.take j ++ x :: l.drop j
theorem atJ_len {l : List Int} {x : Int} {j : Nat} (h : j ≤ l.length) : (atJ l x j).length = l.length + 1 := by simp [atJ]; omega
theorem atJ_end {l : List Int} {x : Int} : atJ l x l.length = l ++ [x] := by simp [atJ]
theorem atJ_get {l : List Int} {x : Int} {j : Nat} (h : j ≤ l.length) : (atJ l x j)[j]? = some x := by
  unfold atJ
  rw [List.getElem?_append_right (by rw [List.length_take]; omega)]
  simp [List.length_take, Nat.min_eq_left h]
theorem atJ_prev {l : List Int} {x : Int} {j : Nat} (h : j < l.length) : (atJ l x (j + 1))[j]? = l[j]? := by
  unfold atJ
  rw [List.getElem?_append_left (by rw [List.length_take]; omega)]
  simp
theorem atJ_swap {l : List Int} {x y : Int} {j : Nat} (h : l[j]? = some y) : ((atJ l x (j + 1)).set (j + 1) y).set j x = atJ l x j := by
  obtain ⟨hj, he⟩ := List.getElem?_eq_some_iff.1 h
  unfold atJ
  have h1 : l.take (j + 1) = l.take j ++ [y] := by rw [List.take_add_one, h]; rfl
  have h2 : l.drop j = y :: l.drop (j + 1) := by rw [← he]; exact (List.drop_eq_getElem_cons hj)
  have h3 : (l.take j).length = j := by rw [List.length_take]; omega
  rw [h1, h2, List.append_assoc, List.set_append_right (h := by omega), h3, show j + 1 - j = 1 by omega]
  simp only [List.singleton_append, List.set_cons_succ, List.set_cons_zero]
  rw [List.set_append_right (h := by omega), h3, Nat.sub_self]
  rfl

theorem refRule {T : Tw} {ft : Bool} {room : Int} (hl : (T.length : Int) < 1000000000) : FSpec Try.prog 33 [towV T ft room] [] (ruleP T room) [] := by
  refine fn33.spec0 mixed noIt_ok ?_
  rw [ic33]
  have hct := fun σ => FSpec.frame (σ := σ) (refTow (T := T) (ft := ft) (room := room) hl) (by simp) rfl
  refine ab_seq_k fun K1 h1 => ?_
  simp
  refine h1 _ _ _ ?_
  clear h1 K1
  refine ab_seq_k fun K2 h2 => ?_
  refine ab_seq_k fun K3 h3 => ?_
  simp [take_towC]
  refine callK_of (hct _) ?_
  simp [take_towC]
  refine h3 _ _ _ ?_
  clear h3 K3
  refine ab_cond_of rfl (fun hc => ?_) (fun hc => ?_)
  · have hne : ¬ checkTow T room = 0 := by simpa using hc
    refine ab_seq_k fun K4 h4 => ?_
    simp [take_towC]
    refine callK_of (hct _) ?_
    simp [take_towC]
    refine h4 _ _ _ ?_
    clear h4 K4
    simp
    exact fin_of 1 (by simp [rs33, ruleP, hne])
  have hct0 : checkTow T room = 0 := by simpa using hc
  obtain ⟨n1, n7, tb, r0, r7⟩ := tow_len hct0
  simp
  refine h2 _ _ _ ?_
  clear h2 K2
  refine ab_seq_k fun K4 h4 => ?_
  simp
  refine h4 _ _ _ ?_
  clear h4 K4
  refine ab_seq_k fun K5 h5 => ?_
  refine ab_seq_k fun K6 h6 => ?_
  simp
  refine h6 _ _ _ ?_
  clear h6 K6
  refine ab_block_k fun K7 h7 => ?_
  refine ab_loop_k (fun m env σ => ∃ i : Nat, i + m = T.length ∧ env = [(1, .p 0 0 0), (4, grV 1 i), (5, .i .i64 i)] ∧ σ = O.row 0 (towC T ft room) :: grH (sortB (soon T) (upTo i))) T.length ⟨0, by omega, by simp [grV], by simp [grH, sortB, upTo]⟩ ?_
  rintro m env σ ⟨i, hi, rfl, rfl⟩ K8 h8
  rw [ic33_1]
  refine ab_seq_k fun K9 h9 => ?_
  refine ab_seq_k fun K10 h10 => ?_
  simp [get0_towC]
  refine h10 _ _ _ ?_
  clear h10 K10
  refine ab_cond_of rfl (fun hc => ?_) (fun hc => ?_)
  · have hil : i < T.length := by simpa using hc
    have hmem : ∀ y ∈ sortB (soon T) (upTo i), 0 ≤ y ∧ y < (T.length : Int) := by
      intro y hy
      rw [sortB_mem, upTo_mem] at hy
      omega
    have hlen : (sortB (soon T) (upTo i)).length = i := by rw [sortB_len, upTo_len]
    have hnext : sortB (soon T) (upTo (i + 1)) = insB (soon T) (sortB (soon T) (upTo i)) i := by rw [upTo_succ, sortB_snoc]
    generalize sortB (soon T) (upTo i) = l at *
    simp
    refine h9 _ _ _ ?_
    clear h9 K9
    refine ab_seq_k fun K11 h11 => ?_
    refine ab_block_k fun K12 h12 => ?_
    refine ab_seq_k fun K13 h13 => ?_
    have hK13 : ∀ env, get env 1 = .p 0 0 0 → get env 4 = .s 1 i 0 (i + 1) 1 → get env 5 = .i .i64 i → K13 (some 0) env [O.row 0 (towC T ft room), O.row i (ints (atJ l i i))] := by
      intro env w1 w4 w5
      refine h13 _ _ _ ?_
      clear h13 K13
      refine ab_seq_k fun K14 h14 => ?_
      simp [w1, w4, w5, wrap64 (x := (i : Int)) (by omega) (by omega)]
      refine h14 _ _ _ ?_
      clear h14 K14
      refine ab_block_k fun K15 h15 => ?_
      refine ab_loop_k (fun m env σ => ∃ j : Nat, j = m ∧ j ≤ i ∧ (∀ y ∈ l.drop j, soon T i y = true) ∧ env = [(1, .p 0 0 0), (4, .s 1 i 0 (i + 1) 1), (5, .i .i64 i), (6, .i .i64 j)] ∧ σ = [O.row 0 (towC T ft room), O.row i (ints (atJ l i j))]) i ⟨i, rfl, Nat.le_refl _, by rw [← hlen]; simp, by simp, rfl⟩ ?_
      rintro m' env' σ ⟨j, rfl, hji, hpre, rfl, rfl⟩ K16 h16
      rw [ic33_0]
      have hfin : ∀ env, get env 1 = .p 0 0 0 → get env 4 = .s 1 i 0 (i + 1) 1 → get env 5 = .i .i64 i → (∀ y, 0 < j → l[j - 1]? = some y → ¬ soon T i y = true) → K15 (some 0) env [O.row 0 (towC T ft room), O.row i (ints (atJ l i j))] := by
        intro env w1 w4 w5 hst
        refine h15 _ _ _ ?_
        refine h12 _ _ _ ?_
        refine h11 _ _ _ ?_
        simp [w1, w4, w5, wrap64 (x := (i : Int) + 1) (by omega) (by omega)]
        refine h8 _ _ _ (again (m - 1) (by omega) ⟨i + 1, by omega, by simp [grV], ?_⟩)
        rw [hnext, insB_at hpre hst (by omega)]
        have : (l.take j ++ (i : Int) :: l.drop j).length = i + 1 := by rw [← hlen]; exact atJ_len (by omega)
        unfold grH
        rw [this]
        simp [atJ]
      refine ab_seq_k fun K17 h17 => ?_
      refine ab_seq_k fun K18 h18 => ?_
      by_cases hj0 : j = 0
      · subst hj0
        simp [abDs_consU, drU, recheck_cons, recheck_nil, rcK, IS.dst]
        refine h18 _ _ _ ?_
        refine ab_cond_of rfl (fun hc => by cases hc) (fun hc => ?_)
        simp
        exact hfin _ rfl rfl rfl (fun y h => by omega)
      obtain ⟨j, rfl⟩ : ∃ j', j = j' + 1 := ⟨j - 1, by omega⟩
      have hjl : j < l.length := by omega
      have hy : l[j]? = some l[j] := List.getElem?_eq_getElem hjl
      generalize hyy : l[j] = y at hy
      obtain ⟨hy0, hy1⟩ := hmem y (List.mem_of_getElem? hy)
      have hso := fun σ => FSpec.frame (σ := σ) (sooner_ok (ft := ft) (room := room) (a := (i : Int)) (b := y) (by omega) (by omega) hy0 hy1) (by simp) rfl
      have hal : (atJ l (i : Int) (j + 1)).length = i + 1 := by rw [← hlen]; exact atJ_len (by omega)
      have g1 : (atJ l (i : Int) (j + 1))[j + 1]? = some (i : Int) := atJ_get (by omega)
      have g2 : (atJ l (i : Int) (j + 1))[j]? = some y := by rw [atJ_prev hjl, hy]
      have hsw := atJ_swap (x := (i : Int)) hy
      generalize hA : atJ l (i : Int) (j + 1) = A at *
      obtain ⟨g1l, g1'⟩ := List.getElem?_eq_some_iff.1 g1
      obtain ⟨g2l, g2'⟩ := List.getElem?_eq_some_iff.1 g2
      have hpos : 0 < (j : Int) + 1 := by omega
      have hji' : j < i := by omega
      have hj0' : (0 : Int) ≤ (j : Int) + 1 := by omega
      have hj1' : (j : Int) < (i : Int) + 1 := by omega
      have hwj := wrap64 (x := (j : Int)) (by omega) (by omega)
      simp [abDs_consU, drU, recheck_cons, recheck_nil, rcK, IS.dst, take_towC, hpos, g1, g1', g2, g2', hji', hwj, hj0', hj1']
      refine callK_of (hso _) ?_
      simp [abDs_consU, drU, recheck_cons, recheck_nil, rcK, IS.dst]
      refine h18 _ _ _ ?_
      clear h18 K18
      refine ab_cond_of rfl (fun hc2 => ?_) (fun hc2 => ?_)
      · have hs : soon T i y = true := by simpa using hc2
        simp
        refine h17 _ _ _ ?_
        clear h17 K17
        refine ab_seq_k fun K19 h19 => ?_
        refine ab_block_k fun K20 h20 => ?_
        simp [abDs_consU, drU, recheck_cons, recheck_nil, rcK, IS.dst, hpos, g1, g1', g2, g2', hji', hwj, hj0', hj1']
        refine ⟨by omega, by omega, ?_⟩
        rw [ints_set, ints_set, hsw]
        refine h20 _ _ _ ?_
        refine h19 _ _ _ ?_
        simp [wrap64 (x := (j : Int) + 1 - 1) (by omega) (by omega)]
        refine h16 _ _ _ (again j (by omega) ⟨j, rfl, by omega, fun z hz => ?_, ?_, rfl⟩)
        · rw [List.drop_eq_getElem_cons hjl, List.mem_cons] at hz
          rcases hz with rfl | hz
          · rw [hyy]; exact hs
          · exact hpre z hz
        · simp [hwj]
      · have hs : ¬ soon T i y = true := by simpa using hc2
        simp
        rw [← hA]
        rw [← hA] at hfin
        refine hfin _ rfl rfl rfl (fun z _ hz => ?_)
        simp only [Nat.add_sub_cancel] at hz
        rw [hy] at hz; cases hz
        exact hs
    have hat : atJ l i i = l ++ [(i : Int)] := by have := atJ_end (l := l) (x := (i : Int)); rwa [hlen] at this
    rw [hat] at hK13
    by_cases hi0 : i = 0
    · subst hi0
      have hl0 : l = [] := List.eq_nil_of_length_eq_zero hlen
      subst hl0
      simp [grV, grH]
      exact hK13 _ rfl rfl rfl
    · have hl0 : ¬ l = [] := by rintro rfl; simp at hlen; omega
      have hrow : ints l ++ [V.i IntKind.i64 (i : Int)] = ints (l ++ [(i : Int)]) := by simp [ints]
      have hi1 : i - 1 + 1 = i := by omega
      simp [grV, grH, hi0, hlen, hl0, hrow, hi1]
      exact ⟨by omega, hK13 _ rfl rfl rfl⟩
  · have hil : i = T.length := by simp at hc; omega
    subst hil
    have hlen : (ruleO T).length = T.length := by unfold ruleO; rw [sortB_len, upTo_len]
    have hne : T.length ≠ 0 := by omega
    simp
    refine h7 _ _ _ ?_
    refine h5 _ _ _ ?_
    refine ab_seq_k fun K20 h20 => ?_
    simp
    refine h20 _ _ _ ?_
    clear h20 K20
    simp
    refine fin_of 3 ?_
    simp [rs33, ruleP, hct0, -frz]
    refine frz_two ?_
    have h := frz_ints (k := 0) (n := 0) (id := 1) (ver := (ruleO T).length - 1) (σ := O.row 0 (towC T ft room) :: grH (ruleO T)) (l := ruleO T) (by simp [grH, hlen, hne]) (Nat.zero_le _)
    rw [hlen] at h
    unfold grV sl
    rw [if_neg hne, hlen]
    exact h
end Go.Ab
