/- open, isLog, Feet. -/
import Derived.Test.YtchmfamkpfaieaaU7
set_option linter.unusedVariables false
set_option linter.unusedSimpArgs false
set_option maxHeartbeats 4000000
namespace Go.Ab
open Go Go.Proofs

/-- What is asked of a stem's lists: not beyond any machine. -/
structure Sz (t b : List Int) : Prop where
  t1 : (t.length : Int) < 1000000000
  b1 : (b.length : Int) < 1000000000
  bb : ∀ x ∈ b, -9223372036854775808 ≤ x ∧ x < 9223372036854775808

theorem stem_ok {t b : List Int} (h : checkStem t b = 0) : 2 ≤ t.length ∧ t.length ≤ 61 ∧ (∀ x ∈ t, 0 ≤ x ∧ x ≤ 60) ∧ falling t ∧ badFrom t.length 0 b = true := by
  unfold checkStem at h
  split at h
  · cases h
  · rename_i h1
    split at h
    · cases h
    · rename_i h2
      split at h
      · cases h
      · rename_i h3
        split at h
        · cases h
        · rename_i h4
          simp only [Bool.not_eq_true', Bool.not_eq_false] at h1 h2 h3 h4
          simp only [fit, Bool.and_eq_true, decide_eq_true_eq] at h1
          refine ⟨by omega, by omega, fun x hx => ?_, by simpa using h3, h4⟩
          have := List.all_eq_true.1 h2 x hx
          simp only [fit, Bool.and_eq_true, decide_eq_true_eq] at this
          exact this

def rulesV (rs : List Ru) : List V := rs.flatMap Ru.cells
theorem rulesV_len {rs : List Ru} : (rulesV rs).length = rs.length * 7 := by
  induction rs with
  | nil => rfl
  | cons r rs ih => simp only [rulesV, List.flatMap_cons, List.length_append, List.length_cons] at ih ⊢; rw [ih]; simp [Ru.cells]; omega
theorem rulesV_drop {rs : List Ru} : ∀ {i : Nat}, (rulesV rs).drop (i * 7) = rulesV (rs.drop i) := by
  induction rs with
  | nil => intro i; simp [rulesV]
  | cons r rs ih =>
    intro i
    cases i with
    | zero => simp
    | succ i =>
      rw [show (i + 1) * 7 = 7 + i * 7 by omega, ← List.drop_drop]
      have : (rulesV (r :: rs)).drop 7 = rulesV rs := by simp [rulesV, Ru.cells]
      rw [this, ih]
      rfl
theorem rulesV_get {rs : List Ru} {i : Nat} {r : Ru} (h : rs[i]? = some r) : ((rulesV rs).drop (i * 7)).take 7 = r.cells := by
  rw [rulesV_drop]
  have hlt := (List.getElem?_eq_some_iff.1 h).1
  have : rs.drop i = r :: rs.drop (i + 1) := by
    rw [List.drop_eq_getElem_cons hlt]
    rw [List.getElem?_eq_getElem hlt] at h
    rw [Option.some.inj h]
  rw [this]
  simp [rulesV, Ru.cells]
@[simp] theorem pure_rules {rs : List Ru} : pureL (rulesV rs) = true := by
  rw [pureL_all]
  intro v hv
  simp only [rulesV, List.mem_flatMap] at hv
  obtain ⟨r, -, hv⟩ := hv
  simp [Ru.cells] at hv
  rcases hv with rfl | rfl | rfl | rfl | rfl | rfl | rfl <;> rfl
@[simp] theorem len_cells {r : Ru} : r.cells.length = 7 := rfl
@[simp] theorem pure_cells {r : Ru} : pureL r.cells = true := rfl

def openE (t b : List Int) (rs : List Ru) : Int := if checkStem t b = 0 then (if rs.all Ru.ok then 0 else 3) else checkStem t b
def openV (t : List Int) (ft : Bool) (b : List Int) (fb : Bool) (rs : List Ru) : V := if openE t b rs = 0 then yardV t ft b fb (knownK t b (rs.getD 0 ⟨0, 0, 0, 0, 0, 0, 0⟩)) else .np

def inv50 (t : List Int) (ft : Bool) (b : List Int) (fb : Bool) (rs : List Ru) (m : Nat) (env : Env) (σ : List O) : Prop :=
  ∃ i : Nat, i + m = rs.length ∧ (rs.take i).all Ru.ok = true ∧ env = [(1, .ss (rulesV rs) rs.length true), (2, .p 0 0 0), (15, .ss (rulesV rs) rs.length true), (16, .i .i64 rs.length), (17, .i .i64 i)] ∧ σ = [.row 0 [sl t ft, sl b fb]]

theorem open_ok {t b : List Int} {ft fb : Bool} {rs : List Ru} (hsz : Sz t b) (hne : rs ≠ []) (hl : rs.length ≤ 10) :
    FSpec Try.prog 50 [.agg [sl t ft, sl b fb], .ss (rulesV rs) rs.length true] [] (.tup [openV t ft b fb rs, .i .i64 (openE t b rs)]) [] := by
  refine fn50.spec0 mixed noIt_ok ?_
  rw [ic50]
  refine ab_seq_k fun K1 h1 => ?_
  simp
  refine h1 _ _ _ ?_
  clear h1 K1
  refine ab_seq_k fun K2 h2 => ?_
  refine ab_seq_k fun K3 h3 => ?_
  simp
  refine callK_of (FSpec.frame (checkStem_ok hsz.t1 hsz.b1) (by simp) rfl) ?_
  simp
  refine h3 _ _ _ ?_
  clear h3 K3
  refine ab_seq_k fun K4 h4 => ?_
  simp
  refine h4 _ _ _ ?_
  clear h4 K4
  refine ab_cond_of rfl (fun hc => ?_) (fun hc => ?_)
  · refine ab_seq_k fun K5 h5 => ?_
    simp
    refine h5 _ _ _ ?_
    simp
    simp at hc
    exact fin_of 1 (by simp [rs50, openV, openE, hc])
  · simp at hc
    obtain ⟨s1, s2, s3, s4, s5⟩ := stem_ok hc
    simp
    refine h2 _ _ _ ?_
    refine ab_seq_k fun K6 h6 => ?_
    refine ab_seq_k fun K7 h7 => ?_
    simp
    refine h7 _ _ _ ?_
    clear h7 K7
    refine ab_block_k fun K8 h8 => ?_
    refine ab_loop_k (inv50 t ft b fb rs) rs.length ⟨0, by omega, by simp, by simp, rfl⟩ ?_
    rintro m env σ ⟨i, hi, hall, rfl, rfl⟩ K9 h9
    rw [ic50_0]
    refine ab_seq_k fun K10 h10 => ?_
    simp
    refine h10 _ _ _ ?_
    clear h10 K10
    refine ab_seq_k fun K11 h11 => ?_
    refine ab_cond_of rfl (fun hc2 => ?_) (fun hc2 => ?_)
    · have hlt : i < rs.length := by simp at hc2; omega
      have hg : rs[i]? = some rs[i] := List.getElem?_eq_getElem hlt
      have htake : rs.take (i + 1) = rs.take i ++ [rs[i]] := by rw [List.take_add_one, hg]; rfl
      have hmem : rs[i] ∈ rs := List.getElem_mem hlt
      generalize rs[i] = r at *
      have hs := rulesV_get hg
      have hlen := rulesV_len (rs := rs)
      have hlt2 : i * 7 + 7 ≤ rs.length * 7 := by omega
      simp
      refine h11 _ _ _ ?_
      refine ab_seq_k fun K12 h12 => ?_
      refine ab_block_k fun K13 h13 => ?_
      refine ab_seq_k fun K14 h14 => ?_
      simp [hlt, hs, hlen, hlt2]
      refine h14 _ _ _ ?_
      clear h14 K14
      refine ab_seq_k fun K15 h15 => ?_
      have h7 : List.take 7 r.cells = r.cells := rfl
      have h7' : List.drop 7 (List.replicate 7 (V.i .i64 0)) = [] := rfl
      simp [h7]
      refine callK_of (FSpec.frame (checkRule_ok (r := r)) (by simp) rfl) ?_
      simp
      refine h15 _ _ _ ?_
      clear h15 K15
      refine ab_seq_k fun K16 h16 => ?_
      simp
      refine h16 _ _ _ ?_
      clear h16 K16
      refine ab_cond_of rfl (fun hc3 => ?_) (fun hc3 => ?_)
      · have hr : r.ok = false := by
          cases h : r.ok
          · rfl
          · simp [Ru.check, h] at hc3
        have hra : rs.all Ru.ok = false := by rw [List.all_eq_false]; exact ⟨r, hmem, by simp [hr]⟩
        refine ab_seq_k fun K17 h17 => ?_
        simp
        refine h17 _ _ _ ?_
        simp
        exact fin_of 1 (by simp [rs50, openV, openE, hc, hra, Ru.check, hr])
      · have hr : r.ok = true := by
          cases h : r.ok
          · simp [Ru.check, h] at hc3
          · rfl
        simp
        refine h13 _ _ _ ?_
        refine h12 _ _ _ ?_
        simp [wrap64 (x := (i : Int) + 1) (by omega) (by omega)]
        refine h9 _ _ _ (againF (m - 1) 2 1 (by omega) (by omega) (by simp) ⟨i + 1, by omega, ?_, ?_, ?_⟩)
        · rw [htake, List.all_append, hall]; simp [hr]
        · simp
        · simp [frzS]
    · have hlt : i = rs.length := by simp at hc2; omega
      subst hlt
      have hra : rs.all Ru.ok = true := by simpa using hall
      simp
      refine h8 _ _ _ ?_
      refine h6 _ _ _ ?_
      refine ab_seq_k fun K18 h18 => ?_
      obtain ⟨r, os, rfl⟩ : ∃ r os, rs = r :: os := by
        cases rs with
        | nil => exact absurd rfl hne
        | cons r os => exact ⟨r, os, rfl⟩
      have hr : r.ok = true := by simp at hra; exact hra.1
      have hs : List.take 7 (rulesV (r :: os)) = r.cells := by have := rulesV_get (rs := r :: os) (i := 0) rfl; simpa using this
      have hlen := rulesV_len (rs := r :: os)
      simp [hs, hlen]
      refine ⟨by omega, callK_of (FSpec.frame (newYard_ok (t := t) (b := b) (ft := ft) (fb := fb) (r := r) s1 s2 s3 hsz.b1 (Ru.bounds hr)) (by simp) (by simp)) ?_⟩
      simp
      refine h18 _ _ _ ?_
      simp
      have he : openE t b (r :: os) = 0 := by simp only [openE, hc, hra, if_true]
      refine fin_of 3 ?_
      simp only [openV, he, if_true]
      simp [rs50]

theorem isLog_ok {t b : List Int} {ft fb : Bool} {kn : Kn} {x y : Int} (ht : (t.length : Int) < 1000000000) : FSpec Try.prog 51 [yardV t ft b fb kn, .agg [.i .i64 x, .i .i64 y]] [] (.b (isLog t.length x y)) [] := by
  refine fn51.spec0 mixed noIt_ok ?_
  rw [ic51]
  refine ab_seq_k fun K1 h1 => ?_
  simp
  refine h1 _ _ _ ?_
  clear h1 K1
  refine ab_seq_k fun K2 h2 => ?_
  have c1 : ∀ {env σ v}, v = isLog t.length x y → get env 4 = .b v → K2 (some 0) env σ := by
    intro env σ v hv e1
    refine h2 _ _ _ ?_
    simp
    exact fin_of 1 (by simp [rs51, e1, hv])
  by_cases e1 : x < y
  · simp [e1]
    refine callK_of (FSpec.frame (long_ok (cells := [sl t ft, sl b fb, knownV kn]) (off := 0) (t := ints t) (n := t.length) (full := ft) rfl ht) (by simp) rfl) ?_
    simp
    refine callK_of (FSpec.frame (within (l := [x, y]) (full := true) (lo := 0) (hi := (t.length : Int) - 1) (by simp)) (by simp) rfl) ?_
    simp
    refine c1 ?_ rfl
    rw [Bool.eq_iff_iff]
    simp [isLog, e1]
    omega
  · simp [e1]
    exact c1 (v := false) (by simp [isLog, e1]) rfl
end Go.Ab
