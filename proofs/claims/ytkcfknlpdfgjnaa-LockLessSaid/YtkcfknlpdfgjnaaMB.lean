/- The laws LockTows, LockBests, LockRules, LockRooms, LockKnown: the walks. -/
import Derived.Test.YtkcfknlpdfgjnaaLZ
set_option linter.unusedVariables false
set_option linter.unusedSimpArgs false
set_option maxHeartbeats 4000000
set_option maxRecDepth 100000
namespace Go.Ab
open Go Go.Proofs

theorem order_form {T : Tw} {room : Int} : ∃ (l : List Int) (f : Bool) (e : Int), orderP T room = .tup [sl l f, .i .i64 e] ∧ (l.length : Int) < 1000000000 := by
  unfold orderP
  split
  · rename_i h
    obtain ⟨n1, n7, -⟩ := tow_len h
    have := (orders_mem (bestO_spec (T := T) (room := room)).2.1).1
    exact ⟨_, _, _, rfl, by omega⟩
  · exact ⟨[], true, _, rfl, by simp⟩
theorem firsts_form {T : Tw} {room : Int} : ∃ (l : List Int) (f : Bool) (e : Int), firstsP T room = .tup [sl l f, .i .i64 e] ∧ (l.length : Int) < 1000000000 := by
  unfold firstsP
  split
  · rename_i h
    obtain ⟨n1, n7, -⟩ := tow_len h
    have hLlen : ((ordersL T.length).length : Int) < 1000000000 := by
      rw [← levels_orders]
      have h1 := levels_len n7 (j := T.length)
      have h2 : 7 ^ T.length ≤ 7 ^ 7 := Nat.pow_le_pow_right (by omega) n7
      omega
    have := firstsF_len (tm := timeR T room) (b := timeR T room (bestO T room)) (L := ordersL T.length) (i := (ordersL T.length).length)
    rw [List.take_length] at this
    exact ⟨firstsL T room, _, _, rfl, by unfold firstsL; omega⟩
  · exact ⟨[], true, _, rfl, by simp⟩
theorem rule_form {T : Tw} {room : Int} : ∃ (l : List Int) (f : Bool) (e : Int), ruleP T room = .tup [sl l f, .i .i64 e] ∧ (l.length : Int) < 1000000000 := by
  unfold ruleP
  split
  · rename_i h
    obtain ⟨n1, n7, -⟩ := tow_len h
    have : (ruleO T).length = T.length := by unfold ruleO; rw [sortB_len, upTo_len]
    exact ⟨_, _, _, rfl, by omega⟩
  · exact ⟨[], true, _, rfl, by simp⟩
theorem proof_form {T : Tw} {room : Int} : ∃ (a b e : Int), proofP T room = .tup [.i .i64 a, .i .i64 b, .i .i64 e] := by
  unfold proofP
  split
  · exact ⟨_, _, _, rfl⟩
  · exact ⟨_, _, _, rfl⟩
theorem thr_form {T : Tw} {room : Int} {o : List Int} (hol : o.length ≤ 12) : ∃ (l : List Int) (f : Bool) (e : Int), thrV T room o = .tup [sl l f, .i .i64 e] ∧ (l.length : Int) < 1000000000 := by
  refine ⟨_, _, _, rfl, ?_⟩
  unfold thrL
  split
  · rw [putAll_len]; omega
  · simp
theorem slow24 {T : Tw} {ft : Bool} {room : Int} (hl : (T.length : Int) < 1000000000) : FSpec Try.prog 24 [towV T ft room] [] (.b (decide (checkTow T room = 0) && decide ((6 : Int) < T.length))) [] := by
  refine fn24.spec0 mixed noIt_ok ?_
  rw [ic24]
  have hct := fun σ => FSpec.frame (σ := σ) (refTow (T := T) (ft := ft) (room := room) hl) (by simp) rfl
  refine ab_seq_k fun K1 h1 => ?_
  simp
  refine h1 _ _ _ ?_
  clear h1 K1
  refine ab_seq_k fun K2 h2 => ?_
  simp [take_towC]
  refine callK_of (hct _) ?_
  by_cases h : checkTow T room = 0
  · simp [h, get0_towC]
    refine h2 _ _ _ ?_
    simp
    exact fin_of 1 (by simp [rs24, h])
  · simp [h]
    refine h2 _ _ _ ?_
    simp
    exact fin_of 1 (by simp [rs24, h])
theorem wk (σ : List O) : FSpec Try.prog 16 [] σ (.b true) σ := FSpec.frame works16 (by simp) rfl

theorem lockTows {T : Tw} {ft fo : Bool} {room : Int} {o : List Int} (hl : (T.length : Int) < 9223372036854775808) (hol : (o.length : Int) < 9223372036854775808) :
    FSpec Try.prog 3 [towV T ft room, sl o fo] [] (.b true) [] := by
  refine fn3.spec0 mixed noIt_ok ?_
  rw [ic3]
  have hgr := fun σ => FSpec.frame (σ := σ) (great_ok (T := T) (ft := ft) (room := room)) (by simp) rfl
  refine ab_seq_k fun K1 h1 => ?_
  simp
  refine h1 _ _ _ ?_
  clear h1 K1
  refine ab_seq_k fun K2 h2 => ?_
  refine ab_seq_k fun K3 h3 => ?_
  simp [take_towC]
  refine callK_of (hgr _) ?_
  have hret : ∀ env σ, get env 19 = .b true → K3 (some 0) env σ := by
    intro env σ w
    refine h3 _ _ _ ?_
    refine ab_cond_of w (fun _ => ?_) (fun h => by cases h)
    refine ab_seq_k fun K4 h4 => ?_
    simp
    refine callK_of (wk _) ?_
    simp
    refine h4 _ _ _ ?_
    clear h4 K4
    simp
    exact fin_of 1 (by simp [rs3])
  by_cases hg : (12 : Int) < T.length
  · simp [hg]
    exact hret _ _ rfl
  by_cases hg2 : (12 : Int) < o.length
  · simp [hg, hg2]
    exact hret _ _ rfl
  simp [hg, hg2]
  refine h3 _ _ _ ?_
  clear h3 hret K3
  refine ab_cond_of rfl (fun h => by cases h) (fun _ => ?_)
  simp
  refine h2 _ _ _ ?_
  clear h2 K2
  have hth := fun σ => FSpec.frame (σ := σ) (through_ok (T := T) (ft := ft) (fo := fo) (room := room) (o := o) (by omega) hol) (by simp) (by simp [thrV])
  have hrt := fun σ => FSpec.frame (σ := σ) (refThrough (T := T) (ft := ft) (fo := fo) (room := room) (o := o) (by omega) hol) (by simp) (by simp [thrV])
  have htm := fun σ => FSpec.frame (σ := σ) (time_ok (T := T) (ft := ft) (fo := fo) (room := room) (o := o) (by omega) hol) (by simp) (by simp [pairV])
  have hrm := fun σ => FSpec.frame (σ := σ) (refTime (T := T) (ft := ft) (fo := fo) (room := room) (o := o) (by omega) hol) (by simp) (by simp [pairV])
  have hct := fun σ => FSpec.frame (σ := σ) (checkTow_ok (T := T) (ft := ft) (room := room) (by omega)) (by simp) rfl
  have hrc := fun σ => FSpec.frame (σ := σ) (refTow (T := T) (ft := ft) (room := room) (by omega)) (by simp) rfl
  obtain ⟨l, f, e, hf, hll⟩ := thr_form (T := T) (room := room) (o := o) (by omega)
  rw [hf] at hth hrt
  have hlo := fun σ => FSpec.frame (σ := σ) (longs_ok (a := l) (b := l) (fa := f) (fb := f) hll) (by simp) rfl
  refine ab_seq_k fun K5 h5 => ?_
  simp [take_towC]
  refine callK_of (hth _) ?_
  simp [take_towC]
  refine h5 _ _ _ ?_
  clear h5 K5
  refine ab_seq_k fun K6 h6 => ?_
  simp [take_towC]
  refine callK_of (hrt _) ?_
  simp [take_towC]
  refine h6 _ _ _ ?_
  clear h6 K6
  refine ab_seq_k fun K7 h7 => ?_
  simp [take_towC, pairV]
  refine callK_of (htm _) ?_
  simp [take_towC, pairV]
  refine h7 _ _ _ ?_
  clear h7 K7
  refine ab_seq_k fun K8 h8 => ?_
  simp [take_towC, pairV]
  refine callK_of (hrm _) ?_
  simp [take_towC, pairV]
  refine h8 _ _ _ ?_
  clear h8 K8
  refine ab_seq_k fun K9 h9 => ?_
  simp [abDs_consU, drU, recheck_cons, recheck_nil, rcK, IS.dst, take_towC]
  refine callK_of (hct _) ?_
  simp [abDs_consU, drU, recheck_cons, recheck_nil, rcK, IS.dst, take_towC]
  refine callK_of (hrc _) ?_
  simp [abDs_consU, drU, recheck_cons, recheck_nil, rcK, IS.dst, take_towC]
  refine callK_of (hlo _) ?_
  simp [abDs_consU, drU, recheck_cons, recheck_nil, rcK, IS.dst, take_towC]
  refine callK_of (wk _) ?_
  simp [abDs_consU, drU, recheck_cons, recheck_nil, rcK, IS.dst, take_towC]
  refine h9 _ _ _ ?_
  simp
  exact fin_of 1 (by simp [rs3])

theorem lockBests {T : Tw} {ft : Bool} {room : Int} (hl : (T.length : Int) < 9223372036854775808) : FSpec Try.prog 4 [towV T ft room] [] (.b true) [] := by
  refine fn4.spec0 mixed noIt_ok ?_
  rw [ic4]
  have hgr := fun σ => FSpec.frame (σ := σ) (great_ok (T := T) (ft := ft) (room := room)) (by simp) rfl
  refine ab_seq_k fun K1 h1 => ?_
  simp
  refine h1 _ _ _ ?_
  clear h1 K1
  refine ab_seq_k fun K2 h2 => ?_
  refine ab_seq_k fun K3 h3 => ?_
  simp [take_towC]
  refine callK_of (hgr _) ?_
  have hret : ∀ env σ, get env 20 = .b true → K3 (some 0) env σ := by
    intro env σ w
    refine h3 _ _ _ ?_
    refine ab_cond_of w (fun _ => ?_) (fun h => by cases h)
    refine ab_seq_k fun K4 h4 => ?_
    simp
    refine callK_of (wk _) ?_
    simp
    refine h4 _ _ _ ?_
    clear h4 K4
    simp
    exact fin_of 1 (by simp [rs4])
  by_cases hg : (12 : Int) < T.length
  · simp [hg]
    exact hret _ _ rfl
  have hsl := fun σ => FSpec.frame (σ := σ) (slow24 (T := T) (ft := ft) (room := room) (by omega)) (by simp) rfl
  simp [hg, take_towC]
  refine callK_of (hsl _) ?_
  by_cases hs : (decide (checkTow T room = 0) && decide ((6 : Int) < T.length)) = true
  · rw [hs]
    simp
    exact hret _ _ rfl
  rw [Bool.not_eq_true] at hs
  rw [hs]
  simp
  refine h3 _ _ _ ?_
  clear h3 hret K3
  refine ab_cond_of rfl (fun h => by cases h) (fun _ => ?_)
  simp
  refine h2 _ _ _ ?_
  clear h2 K2
  obtain ⟨l1, f1, e1, hf1, hl1⟩ := order_form (T := T) (room := room)
  obtain ⟨l2, f2, e2, hf2, hl2⟩ := firsts_form (T := T) (room := room)
  have g1 := fun σ => FSpec.frame (σ := σ) (prgBest (T := T) (ft := ft) (room := room) (by omega)) (by simp) (by simp [pairV])
  have g2 := fun σ => FSpec.frame (σ := σ) (refBest (T := T) (ft := ft) (room := room) (by omega)) (by simp) (by simp [pairV])
  have g3 := fun σ => FSpec.frame (σ := σ) (prgOrder (T := T) (ft := ft) (room := room) (by omega)) (by simp) (by rw [hf1]; simp)
  have g4 := fun σ => FSpec.frame (σ := σ) (refOrder (T := T) (ft := ft) (room := room) (by omega)) (by simp) (by rw [hf1]; simp)
  have g5 := fun σ => FSpec.frame (σ := σ) (prgFirsts (T := T) (ft := ft) (room := room) (by omega)) (by simp) (by rw [hf2]; simp)
  have g6 := fun σ => FSpec.frame (σ := σ) (refFirsts (T := T) (ft := ft) (room := room) (by omega)) (by simp) (by rw [hf2]; simp)
  rw [hf1] at g3 g4
  rw [hf2] at g5 g6
  have i1 := fun σ => FSpec.frame (σ := σ) (ints_ok (a := l1) (b := l1) (fa := f1) (fb := f1) hl1) (by simp) rfl
  have i2 := fun σ => FSpec.frame (σ := σ) (ints_ok (a := l2) (b := l2) (fa := f2) (fb := f2) hl2) (by simp) rfl
  refine ab_seq_k fun K5 h5 => ?_
  simp [take_towC, pairV]
  refine callK_of (g1 _) ?_
  simp [take_towC, pairV]
  refine h5 _ _ _ ?_
  clear h5 K5
  refine ab_seq_k fun K6 h6 => ?_
  simp [take_towC, pairV]
  refine callK_of (g2 _) ?_
  simp [take_towC, pairV]
  refine h6 _ _ _ ?_
  clear h6 K6
  refine ab_seq_k fun K7 h7 => ?_
  simp [take_towC]
  refine callK_of (g3 _) ?_
  simp [take_towC]
  refine h7 _ _ _ ?_
  clear h7 K7
  refine ab_seq_k fun K8 h8 => ?_
  simp [take_towC]
  refine callK_of (g4 _) ?_
  simp [take_towC]
  refine h8 _ _ _ ?_
  clear h8 K8
  refine ab_seq_k fun K9 h9 => ?_
  simp [take_towC]
  refine callK_of (g5 _) ?_
  simp [take_towC]
  refine h9 _ _ _ ?_
  clear h9 K9
  refine ab_seq_k fun K10 h10 => ?_
  simp [take_towC]
  refine callK_of (g6 _) ?_
  simp [take_towC]
  refine h10 _ _ _ ?_
  clear h10 K10
  refine ab_seq_k fun K11 h11 => ?_
  simp
  refine callK_of (i1 _) ?_
  simp
  refine callK_of (i2 _) ?_
  simp
  refine callK_of (wk _) ?_
  simp
  refine h11 _ _ _ ?_
  clear h11 K11
  simp
  exact fin_of 1 (by simp [rs4])

theorem lockRules {T : Tw} {ft : Bool} {room lock t : Int} (hl : (T.length : Int) < 9223372036854775808) : FSpec Try.prog 5 [towV T ft room, .i .i64 lock, .i .i64 t] [] (.b true) [] := by
  refine fn5.spec0 mixed noIt_ok ?_
  rw [ic5]
  have hgr := fun σ => FSpec.frame (σ := σ) (great_ok (T := T) (ft := ft) (room := room)) (by simp) rfl
  refine ab_seq_k fun K1 h1 => ?_
  simp
  refine h1 _ _ _ ?_
  clear h1 K1
  refine ab_seq_k fun K2 h2 => ?_
  refine ab_seq_k fun K3 h3 => ?_
  simp [take_towC]
  refine callK_of (hgr _) ?_
  simp [take_towC]
  refine h3 _ _ _ ?_
  clear h3 K3
  refine ab_cond_of rfl (fun hc => ?_) (fun hc => ?_)
  · refine ab_seq_k fun K4 h4 => ?_
    simp
    refine callK_of (wk _) ?_
    simp
    refine h4 _ _ _ ?_
    clear h4 K4
    simp
    exact fin_of 1 (by simp [rs5])
  have hg : ¬ (12 : Int) < T.length := by simpa using hc
  simp
  refine h2 _ _ _ ?_
  clear h2 K2
  obtain ⟨l1, f1, e1, hf1, hl1⟩ := rule_form (T := T) (room := room)
  obtain ⟨a, b, e2, hf2⟩ := proof_form (T := T) (room := room)
  have g1 := fun σ => FSpec.frame (σ := σ) (prgRule (T := T) (ft := ft) (room := room) (by omega)) (by simp) (by rw [hf1]; simp)
  have g2 := fun σ => FSpec.frame (σ := σ) (refRule (T := T) (ft := ft) (room := room) (by omega)) (by simp) (by rw [hf1]; simp)
  have g3 := fun σ => FSpec.frame (σ := σ) (prgBound (T := T) (ft := ft) (room := room) (lock := lock) (t := t) (by omega)) (by simp) (by simp [pairV])
  have g4 := fun σ => FSpec.frame (σ := σ) (refBound (T := T) (ft := ft) (room := room) (lock := lock) (t := t) (by omega)) (by simp) (by simp [pairV])
  have g5 := fun σ => FSpec.frame (σ := σ) (prgProof (T := T) (ft := ft) (room := room) (by omega)) (by simp) (by rw [hf2]; simp)
  have g6 := fun σ => FSpec.frame (σ := σ) (refProof (T := T) (ft := ft) (room := room) (by omega)) (by simp) (by rw [hf2]; simp)
  rw [hf1] at g1 g2
  rw [hf2] at g5 g6
  have i1 := fun σ => FSpec.frame (σ := σ) (ints_ok (a := l1) (b := l1) (fa := f1) (fb := f1) hl1) (by simp) rfl
  refine ab_seq_k fun K5 h5 => ?_
  simp [take_towC]
  refine callK_of (g1 _) ?_
  simp [take_towC]
  refine h5 _ _ _ ?_
  clear h5 K5
  refine ab_seq_k fun K6 h6 => ?_
  simp [take_towC]
  refine callK_of (g2 _) ?_
  simp [take_towC]
  refine h6 _ _ _ ?_
  clear h6 K6
  refine ab_seq_k fun K7 h7 => ?_
  simp [take_towC, pairV]
  refine callK_of (g3 _) ?_
  simp [take_towC, pairV]
  refine h7 _ _ _ ?_
  clear h7 K7
  refine ab_seq_k fun K8 h8 => ?_
  simp [take_towC, pairV]
  refine callK_of (g4 _) ?_
  simp [take_towC, pairV]
  refine h8 _ _ _ ?_
  clear h8 K8
  refine ab_seq_k fun K9 h9 => ?_
  simp [take_towC]
  refine callK_of (g5 _) ?_
  simp [take_towC]
  refine h9 _ _ _ ?_
  clear h9 K9
  refine ab_seq_k fun K10 h10 => ?_
  simp [take_towC]
  refine callK_of (g6 _) ?_
  simp [take_towC]
  refine h10 _ _ _ ?_
  clear h10 K10
  refine ab_seq_k fun K11 h11 => ?_
  simp
  refine callK_of (i1 _) ?_
  simp
  refine callK_of (wk _) ?_
  simp
  refine h11 _ _ _ ?_
  clear h11 K11
  simp
  exact fin_of 1 (by simp [rs5])

theorem lockRooms {T : Tw} {ft : Bool} {room : Int} (hl : (T.length : Int) < 9223372036854775808) : FSpec Try.prog 6 [towV T ft room] [] (.b true) [] := by
  refine fn6.spec0 mixed noIt_ok ?_
  rw [ic6]
  have hgr := fun σ => FSpec.frame (σ := σ) (great_ok (T := T) (ft := ft) (room := room)) (by simp) rfl
  refine ab_seq_k fun K1 h1 => ?_
  simp
  refine h1 _ _ _ ?_
  clear h1 K1
  refine ab_seq_k fun K2 h2 => ?_
  refine ab_seq_k fun K3 h3 => ?_
  simp [take_towC]
  refine callK_of (hgr _) ?_
  have hret : ∀ env σ, get env 18 = .b true → K3 (some 0) env σ := by
    intro env σ w
    refine h3 _ _ _ ?_
    refine ab_cond_of w (fun _ => ?_) (fun h => by cases h)
    refine ab_seq_k fun K4 h4 => ?_
    simp
    refine callK_of (wk _) ?_
    simp
    refine h4 _ _ _ ?_
    clear h4 K4
    simp
    exact fin_of 1 (by simp [rs6])
  by_cases hg : (12 : Int) < T.length
  · simp [hg]
    exact hret _ _ rfl
  have hsl := fun σ => FSpec.frame (σ := σ) (slow24 (T := T) (ft := ft) (room := room) (by omega)) (by simp) rfl
  simp [hg, take_towC]
  refine callK_of (hsl _) ?_
  by_cases hs : (decide (checkTow T room = 0) && decide ((6 : Int) < T.length)) = true
  · rw [hs]
    simp
    exact hret _ _ rfl
  rw [Bool.not_eq_true] at hs
  rw [hs]
  by_cases h6 : (T.length : Int) = 6
  · simp [get0_towC, h6]
    exact hret _ _ rfl
  simp [get0_towC, h6]
  refine h3 _ _ _ ?_
  clear h3 hret K3
  refine ab_cond_of rfl (fun h => by cases h) (fun _ => ?_)
  simp
  refine h2 _ _ _ ?_
  clear h2 K2
  have g1 := fun σ => FSpec.frame (σ := σ) (prgEnough (T := T) (ft := ft) (room := room) (by omega)) (by simp) (by simp [pairV])
  have g2 := fun σ => FSpec.frame (σ := σ) (refEnough (T := T) (ft := ft) (room := room) (by omega)) (by simp) (by simp [pairV])
  refine ab_seq_k fun K5 h5 => ?_
  simp [take_towC, pairV]
  refine callK_of (g1 _) ?_
  simp [take_towC, pairV]
  refine h5 _ _ _ ?_
  clear h5 K5
  refine ab_seq_k fun K6 h6 => ?_
  simp [take_towC, pairV]
  refine callK_of (g2 _) ?_
  simp [take_towC, pairV]
  refine h6 _ _ _ ?_
  clear h6 K6
  refine ab_seq_k fun K7 h7 => ?_
  simp
  refine callK_of (wk _) ?_
  simp
  refine h7 _ _ _ ?_
  clear h7 K7
  simp
  exact fin_of 1 (by simp [rs6])
end Go.Ab
