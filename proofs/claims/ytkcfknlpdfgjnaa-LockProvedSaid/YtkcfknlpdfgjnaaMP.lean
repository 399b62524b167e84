/- The law LockProved. -/
import Derived.Test.YtkcfknlpdfgjnaaMO
set_option linter.unusedVariables false
set_option linter.unusedSimpArgs false
set_option maxHeartbeats 4000000
set_option maxRecDepth 100000
namespace Go.Ab
open Go Go.Proofs

theorem lockProved {T : Tw} {ft fb : Bool} {room : Int} {by_ : List Int} {x y : Int} (hl : (T.length : Int) < 9223372036854775808) (hb : (by_.length : Int) < 9223372036854775808) (hb2 : ∀ x ∈ by_, 0 ≤ x ∧ x < 256) (hx0 : 0 ≤ x) (hx1 : x < 256) (hy0 : 0 ≤ y) (hy1 : y < 65536) :
    FSpec Try.prog 7 [towV T ft room, slB by_ fb, .i .u8 x, .i .u16 y] [] (.b true) [] := by
  refine fn7.spec0 mixed noIt_ok ?_
  rw [ic7]
  have hfi := fun σ => FSpec.frame (σ := σ) (fine40 (T := T) (ft := ft) (room := room) hl) (by simp) rfl
  refine ab_seq_k fun K1 h1 => ?_
  simp
  refine h1 _ _ _ ?_
  clear h1 K1
  refine ab_seq_k fun K2 h2 => ?_
  refine ab_seq_k fun K3 h3 => ?_
  simp [take_towC]
  refine callK_of (hfi _) ?_
  have hret : ∀ env σ, get env 28 = .b true → K3 (some 0) env σ := by
    intro env σ w
    refine h3 _ _ _ ?_
    refine ab_cond_of w (fun _ => ?_) (fun h => by cases h)
    refine ab_seq_k fun K4 h4 => ?_
    simp
    refine callK_of (wk _) ?_
    simp
    refine h4 _ _ _ ?_
    clear h4 K4
    simp
    exact fin_of 1 (by simp [rs7])
  by_cases hct0 : ¬ checkTow T room = 0
  · have hf : fineB T room = false := by simp [fineB, hct0]
    simp [hf]
    exact hret _ _ rfl
  replace hct0 : checkTow T room = 0 := Classical.not_not.1 hct0
  have hf : fineB T room = true := by simp [fineB, hct0]
  by_cases hg2 : (20 : Int) < by_.length
  · simp [hf, hg2]
    exact hret _ _ rfl
  simp [hf, hg2]
  refine h3 _ _ _ ?_
  clear h3 hret K3
  refine ab_cond_of rfl (fun h => by cases h) (fun _ => ?_)
  simp
  refine h2 _ _ _ ?_
  clear h2 K2
  obtain ⟨n1, n7, tb, r0, r7⟩ := tow_len hct0
  have hl9 : (T.length : Int) < 1000000000 := by omega
  have hgiv := orderBy_ord (by_ := by_) (n := T.length)
  obtain ⟨g1, g2, g3⟩ := isOrd_spec hgiv
  obtain ⟨R, hR⟩ : ∃ R : Nat, (R : Int) = room := ⟨room.toNat, by omega⟩
  have G6 := fun σ => FSpec.frame (σ := σ) (order41 (T := T) (ft := ft) (fb := fb) (room := room) (by_ := by_) n1 n7 (by omega) (fun x hx => by have := hb2 x hx; omega)) (by simp) (by simp)
  have G7 := fun (o : List Int) (ho : o.length = T.length) σ => FSpec.frame (σ := σ) (time_ok (T := T) (ft := ft) (fo := false) (room := room) (o := o) hl9 (by omega)) (by simp) (by simp [pairV])
  have htp : ∀ o : List Int, isOrd T.length o = true → timeP T room o = (timeR T room o, 0) := fun o ho => by simp [timeP, timeR, ordE, hct0, ho]
  have G8 := fun (lock t : Int) σ => FSpec.frame (σ := σ) (prgBound (T := T) (ft := ft) (room := room) (lock := lock) (t := t) hl9) (by simp) (by simp [pairV])
  have hps : proofP T room = .tup [.i .i64 (proofS T).1, .i .i64 (proofS T).2, .i .i64 0] := by simp [proofP, hct0]
  have G9 := fun σ => FSpec.frame (σ := σ) (prgProof (T := T) (ft := ft) (room := room) hl9) (by simp) (by rw [hps]; rfl)
  rw [hps] at G9
  have hpis := (proof_is tb n1).1
  have hbd : ∀ lock t, (lock = 1 ∨ lock = 2) → 0 ≤ t → t ≤ 1000 → boundP T room lock t = if (boundF T lock t).2 = true then ((boundF T lock t).1, 0) else (0, 5) := by
    intro lock t h1 h2 h3
    unfold boundP boundE
    cases hb : (boundF T lock t).2 <;> (rcases h1 with rfl | rfl <;> simp [hct0, hb, show ¬ t < 0 by omega, show ¬ 1000 < t by omega])
  have hkx : 1 + x % 2 = 1 ∨ 1 + x % 2 = 2 := by omega
  have hty0 : 0 ≤ y % 1001 := by omega
  have hty1 : y % 1001 ≤ 1000 := by omega
  have hxa : x.tmod 2 = x % 2 := Int.tmod_eq_emod_of_nonneg hx0
  have hya : y.tmod 1001 = y % 1001 := Int.tmod_eq_emod_of_nonneg hy0
  generalize y % 1001 = t at *
  generalize hk1 : 1 + x % 2 = k1 at *
  have hk1w : IntKind.i64.wrap (1 + x % 2) = k1 := by rw [wrap64 (by omega) (by omega)]; exact hk1
  have hcle : bS T (proofS T) ≤ timeR T room (orderBy by_ T.length) := by
    rw [← hR]
    exact bound_time tb hpis.lock (isOrd_perm hgiv) hpis.ok
  have hbc : (boundF T k1 t).2 = true → (boundF T k1 t).1 ≤ bS T (proofS T) := fun h => hpis.top (k1, t) hkx hty0 h
  have hbp2 := hbd _ _ hpis.lock hpis.t0 hpis.t1
  have hok1 : (boundF T (proofS T).1 (proofS T).2).2 = true := hpis.ok
  rw [if_pos hok1] at hbp2
  have hB0 : (boundF T (proofS T).1 (proofS T).2).1 = bS T (proofS T) := rfl
  rw [hB0] at hbp2
  have G8p := G8 (proofS T).1 (proofS T).2
  rw [hbp2] at G8p
  have G8k := G8 k1 t
  rw [hbd k1 t hkx hty0 hty1] at G8k
  have hrule : isOrd T.length (ruleO T) = true := perm_isOrd ruleO_perm
  have G7o := G7 _ g1
  rw [htp _ hgiv] at G7o
  have G7r := G7 (ruleO T) (isOrd_spec hrule).1
  rw [htp _ hrule] at G7r
  have hbt : ¬ room < (T.length : Int) - 1 → timeR T room (ruleO T) = bS T (proofS T) ∧ bestT T room = bS T (proofS T) := by
    intro h
    rw [← hR]
    obtain ⟨k, s, e1, e2, e3, e4, e5⟩ := rule_time (R := R) tb n1 (by omega)
    have h1 : (boundF T k s).1 ≤ bS T (proofS T) := hpis.top (k, s) e1 e2 e4
    have h2 : bS T (proofS T) ≤ timeR T R (bestO T R) := bound_time tb hpis.lock (isOrd_perm bestO_isOrd) hpis.ok
    have h3 := bestT_isOrd (T := T) (r := R) hrule
    have d1 : bestT T R = timeR T R (bestO T R) := rfl
    omega
  have GR := fun σ => FSpec.frame (σ := σ) (prgRule (T := T) (ft := ft) (room := room) hl9) (by simp) (by simp [ruleP, hct0])
  have hrp : ruleP T room = .tup [sl (ruleO T) false, .i .i64 0] := by simp [ruleP, hct0]
  rw [hrp] at GR
  have GB := fun σ => FSpec.frame (σ := σ) (prgBest (T := T) (ft := ft) (room := room) hl9) (by simp) (by simp [pairV])
  have hbp : bestP T room = (bestT T room, 0) := by simp [bestP, hct0, bestT]
  rw [hbp] at GB
  have GI := fun σ => FSpec.frame (σ := σ) (isOrder_ok (n := T.length) (o := ruleO T) (fo := false) (by omega) (by rw [(isOrd_spec hrule).1]; omega)) (by simp) rfl
  rw [hrule] at GI
  have GT : ∀ σ, FSpec Try.prog 43 [towV T ft room, sl (ruleO T) false] σ (.i .i64 (timeR T room (ruleO T))) σ := fun σ => FSpec.frame (timeOf_ok (ft := ft) (fo := false) (room := room) (o := ruleO T) tb r0 r7 (by rw [(isOrd_spec hrule).1]; omega) (isOrd_spec hrule).2.1) (by simp) rfl
  generalize timeR T room (orderBy by_ T.length) = ta at *
  generalize orderBy by_ T.length = gv at *
  generalize bS T (proofS T) = c at *
  generalize (proofS T).1 = pk at *
  generalize (proofS T).2 = pm at *
  generalize timeR T room (ruleO T) = tr at *
  generalize bestT T room = bt at *
  generalize ruleO T = rl at *
  generalize hB2 : (boundF T k1 t).2 = okk at *
  generalize (boundF T k1 t).1 = bk at *
  clear hbd G7 htp G8
  clear hok1
  refine ab_seq_k fun K5 h5 => ?_
  simp [abDs_consU, drU, recheck_cons, recheck_nil, rcK, IS.dst, take_towC]
  refine callK_of (G6 _) ?_
  simp [abDs_consU, drU, recheck_cons, recheck_nil, rcK, IS.dst, take_towC]
  refine callK_of (G7o _) ?_
  simp [abDs_consU, drU, recheck_cons, recheck_nil, rcK, IS.dst, pairV]
  refine h5 _ _ _ ?_
  clear h5 K5
  have hng3 : ¬ ta < c := by omega
  cases okk with
  | true =>
    have hng2 : ¬ c < bk := by have := hbc rfl; omega
    have hng1 : ¬ ta < bk := by omega
    simp only [if_true] at G8k
    refine ab_seq_k fun K6 h6 => ?_
    simp [take_towC, pairV, wrap64 (x := x) (by omega) (by omega), wrap64 (x := y) (by omega) (by omega), hxa, hya, hk1w]
    refine callK_of (G8k _) ?_
    simp [take_towC, pairV, wrap64 (x := x) (by omega) (by omega), wrap64 (x := y) (by omega) (by omega), hxa, hya, hk1w]
    refine h6 _ _ _ ?_
    clear h6 K6
    refine ab_seq_k fun K7 h7 => ?_
    simp [take_towC, pairV]
    refine callK_of (G9 _) ?_
    simp [take_towC, pairV]
    refine h7 _ _ _ ?_
    clear h7 K7
    refine ab_seq_k fun K8 h8 => ?_
    refine ab_seq_k fun K9 h9 => ?_
    simp [hng1]
    refine h9 _ _ _ ?_
    clear h9 K9
    refine ab_cond_of rfl (fun h => by cases h) (fun _ => ?_)
    simp
    refine h8 _ _ _ ?_
    clear h8 K8
    refine ab_seq_k fun K10 h10 => ?_
    simp [take_towC, pairV]
    refine callK_of (G8p _) ?_
    simp [take_towC, pairV]
    refine h10 _ _ _ ?_
    clear h10 K10
    refine ab_seq_k fun K11 h11 => ?_
    refine ab_seq_k fun K12 h12 => ?_
    simp [hng1, hng2, hng3]
    refine h12 _ _ _ ?_
    clear h12 K12
    refine ab_cond_of rfl (fun h => by cases h) (fun _ => ?_)
    simp
    refine h11 _ _ _ ?_
    clear h11 K11
    refine ab_seq_k fun K13 h13 => ?_
    refine ab_seq_k fun K14 h14 => ?_
    simp [get0_towC, get1_towC, wrap64 (x := (T.length : Int) - 1) (by omega) (by omega)]
    refine h14 _ _ _ ?_
    clear h14 K14
    refine ab_cond_of rfl (fun hc => ?_) (fun hc => ?_)
    · refine ab_seq_k fun K15 h15 => ?_
      simp
      refine callK_of (wk _) ?_
      simp
      refine h15 _ _ _ ?_
      clear h15 K15
      simp
      exact fin_of 1 (by simp [rs7])
    · obtain ⟨e1, e2⟩ := hbt (of_decide_eq_false hc)
      subst e1 e2
      simp
      refine h13 _ _ _ ?_
      clear h13 K13
      refine ab_seq_k fun K16 h16 => ?_
      simp [take_towC, pairV]
      refine callK_of (GR _) ?_
      simp [take_towC, pairV]
      refine h16 _ _ _ ?_
      clear h16 K16
      refine ab_seq_k fun K17 h17 => ?_
      simp [take_towC, pairV]
      refine callK_of (GB _) ?_
      simp [take_towC, pairV]
      refine h17 _ _ _ ?_
      clear h17 K17
      refine ab_seq_k fun K18 h18 => ?_
      refine ab_seq_k fun K19 h19 => ?_
      simp [get0_towC]
      refine callK_of (GI _) ?_
      simp [get0_towC]
      refine h19 _ _ _ ?_
      clear h19 K19
      refine ab_cond_of rfl (fun h => by cases h) (fun _ => ?_)
      simp
      refine h18 _ _ _ ?_
      clear h18 K18
      refine ab_seq_k fun K20 h20 => ?_
      simp [take_towC, pairV]
      refine callK_of (G7r _) ?_
      simp [take_towC, pairV]
      refine h20 _ _ _ ?_
      clear h20 K20
      refine ab_seq_k fun K21 h21 => ?_
      simp [take_towC]
      refine callK_of (GT _) ?_
      simp [take_towC]
      refine callK_of (wk _) ?_
      simp [take_towC]
      refine h21 _ _ _ ?_
      clear h21 K21
      simp
      exact fin_of 1 (by simp [rs7])
  | false =>
    have hng1 : True := trivial
    have hng2 : True := trivial
    simp only [Bool.false_eq_true, if_false] at G8k
    refine ab_seq_k fun K6 h6 => ?_
    simp [take_towC, pairV, wrap64 (x := x) (by omega) (by omega), wrap64 (x := y) (by omega) (by omega), hxa, hya, hk1w]
    refine callK_of (G8k _) ?_
    simp [take_towC, pairV, wrap64 (x := x) (by omega) (by omega), wrap64 (x := y) (by omega) (by omega), hxa, hya, hk1w]
    refine h6 _ _ _ ?_
    clear h6 K6
    refine ab_seq_k fun K7 h7 => ?_
    simp [take_towC, pairV]
    refine callK_of (G9 _) ?_
    simp [take_towC, pairV]
    refine h7 _ _ _ ?_
    clear h7 K7
    refine ab_seq_k fun K8 h8 => ?_
    refine ab_seq_k fun K9 h9 => ?_
    simp [hng1]
    refine h9 _ _ _ ?_
    clear h9 K9
    refine ab_cond_of rfl (fun h => by cases h) (fun _ => ?_)
    simp
    refine h8 _ _ _ ?_
    clear h8 K8
    refine ab_seq_k fun K10 h10 => ?_
    simp [take_towC, pairV]
    refine callK_of (G8p _) ?_
    simp [take_towC, pairV]
    refine h10 _ _ _ ?_
    clear h10 K10
    refine ab_seq_k fun K11 h11 => ?_
    refine ab_seq_k fun K12 h12 => ?_
    simp [hng1, hng2, hng3]
    refine h12 _ _ _ ?_
    clear h12 K12
    refine ab_cond_of rfl (fun h => by cases h) (fun _ => ?_)
    simp
    refine h11 _ _ _ ?_
    clear h11 K11
    refine ab_seq_k fun K13 h13 => ?_
    refine ab_seq_k fun K14 h14 => ?_
    simp [get0_towC, get1_towC, wrap64 (x := (T.length : Int) - 1) (by omega) (by omega)]
    refine h14 _ _ _ ?_
    clear h14 K14
    refine ab_cond_of rfl (fun hc => ?_) (fun hc => ?_)
    · refine ab_seq_k fun K15 h15 => ?_
      simp
      refine callK_of (wk _) ?_
      simp
      refine h15 _ _ _ ?_
      clear h15 K15
      simp
      exact fin_of 1 (by simp [rs7])
    · obtain ⟨e1, e2⟩ := hbt (of_decide_eq_false hc)
      subst e1 e2
      simp
      refine h13 _ _ _ ?_
      clear h13 K13
      refine ab_seq_k fun K16 h16 => ?_
      simp [take_towC, pairV]
      refine callK_of (GR _) ?_
      simp [take_towC, pairV]
      refine h16 _ _ _ ?_
      clear h16 K16
      refine ab_seq_k fun K17 h17 => ?_
      simp [take_towC, pairV]
      refine callK_of (GB _) ?_
      simp [take_towC, pairV]
      refine h17 _ _ _ ?_
      clear h17 K17
      refine ab_seq_k fun K18 h18 => ?_
      refine ab_seq_k fun K19 h19 => ?_
      simp [get0_towC]
      refine callK_of (GI _) ?_
      simp [get0_towC]
      refine h19 _ _ _ ?_
      clear h19 K19
      refine ab_cond_of rfl (fun h => by cases h) (fun _ => ?_)
      simp
      refine h18 _ _ _ ?_
      clear h18 K18
      refine ab_seq_k fun K20 h20 => ?_
      simp [take_towC, pairV]
      refine callK_of (G7r _) ?_
      simp [take_towC, pairV]
      refine h20 _ _ _ ?_
      clear h20 K20
      refine ab_seq_k fun K21 h21 => ?_
      simp [take_towC]
      refine callK_of (GT _) ?_
      simp [take_towC]
      refine callK_of (wk _) ?_
      simp [take_towC]
      refine h21 _ _ _ ?_
      clear h21 K21
      simp
      exact fin_of 1 (by simp [rs7])
end Go.Ab
