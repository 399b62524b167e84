/- The law LockOrders. -/
import Derived.Test.YtkcfknlpdfgjnaaME
set_option linter.unusedVariables false
set_option linter.unusedSimpArgs false
set_option maxHeartbeats 4000000
set_option maxRecDepth 100000
namespace Go.Ab
open Go Go.Proofs

theorem before44 {a b : List Int} {fa fb : Bool} (hl : a.length = b.length) (hs : (a.length : Int) < 1000000000) : FSpec Try.prog 44 [sl a fa, sl b fb] [] (.b (beforeL a b)) [] := by
  refine fn44.spec0 mixed noIt_ok ?_
  rw [ic44]
  refine ab_seq_k fun K1 h1 => ?_
  simp
  refine h1 _ _ _ ?_
  clear h1 K1
  refine ab_seq_k fun K2 h2 => ?_
  refine ab_seq_k fun K3 h3 => ?_
  simp
  refine h3 _ _ _ ?_
  clear h3 K3
  refine ab_block_k fun K4 h4 => ?_
  refine ab_loop_k (fun m env σ => ∃ i : Nat, i + m = a.length ∧ beforeL a b = beforeL (a.drop i) (b.drop i) ∧ env = [(0, sl a fa), (1, sl b fb), (5, .i .i64 i)] ∧ σ = []) a.length ⟨0, by omega, by simp, by simp, rfl⟩ ?_
  rintro m env σ ⟨i, hi, hpre, rfl, rfl⟩ K5 h5
  rw [ic44_0]
  refine ab_seq_k fun K6 h6 => ?_
  refine ab_seq_k fun K7 h7 => ?_
  simp
  refine h7 _ _ _ ?_
  clear h7 K7
  refine ab_cond_of rfl (fun hc => ?_) (fun hc => ?_)
  · have hil : i < a.length := by simpa using hc
    have hilb : i < b.length := by omega
    have hx : a[i]? = some a[i] := List.getElem?_eq_getElem hil
    have hy : b[i]? = some b[i] := List.getElem?_eq_getElem hilb
    rw [List.drop_eq_getElem_cons hil, List.drop_eq_getElem_cons hilb, beforeL] at hpre
    generalize hxx : a[i] = x at *
    generalize hyy : b[i] = y at *
    simp
    refine h6 _ _ _ ?_
    clear h6 K6
    refine ab_seq_k fun K8 h8 => ?_
    refine ab_block_k fun K9 h9 => ?_
    refine ab_seq_k fun K10 h10 => ?_
    simp [hil, hilb, hx, hy, hxx, hyy]
    refine h10 _ _ _ ?_
    clear h10 K10
    refine ab_cond_of rfl (fun hc2 => ?_) (fun hc2 => ?_)
    · have hne : x ≠ y := by simpa using hc2
      rw [if_pos hne] at hpre
      refine ab_seq_k fun K11 h11 => ?_
      simp [hil, hilb, hx, hy, hxx, hyy]
      refine h11 _ _ _ ?_
      clear h11 K11
      simp
      exact fin_of 1 (by simp [rs44, hpre])
    · have he : x = y := by simpa using hc2
      rw [if_neg (by simp [he])] at hpre
      simp
      refine h9 _ _ _ ?_
      refine h8 _ _ _ ?_
      simp [wrap64 (x := (i : Int) + 1) (by omega) (by omega)]
      exact h5 _ _ _ (again (m - 1) (by omega) ⟨i + 1, by omega, hpre, by simp, rfl⟩)
  · have hil : i = a.length := by simp at hc; omega
    subst hil
    rw [List.drop_length] at hpre
    have hf : beforeL a b = false := by rw [hpre]; cases b.drop a.length <;> rfl
    simp
    refine h4 _ _ _ ?_
    refine h2 _ _ _ ?_
    refine ab_seq_k fun K12 h12 => ?_
    simp
    refine h12 _ _ _ ?_
    clear h12 K12
    simp
    exact fin_of 1 (by simp [rs44, hf])

theorem lockOrders {T : Tw} {ft fb : Bool} {room : Int} {by_ : List Int} (hl : (T.length : Int) < 9223372036854775808) (hb : (by_.length : Int) < 9223372036854775808) (hb2 : ∀ x ∈ by_, 0 ≤ x ∧ x < 256) :
    FSpec Try.prog 8 [towV T ft room, slB by_ fb] [] (.b true) [] := by
  refine fn8.spec0 mixed noIt_ok ?_
  rw [ic8]
  have hfi := fun σ => FSpec.frame (σ := σ) (fine40 (T := T) (ft := ft) (room := room) hl) (by simp) rfl
  refine ab_seq_k fun K1 h1 => ?_
  simp
  refine h1 _ _ _ ?_
  clear h1 K1
  refine ab_seq_k fun K2 h2 => ?_
  refine ab_seq_k fun K3 h3 => ?_
  simp [take_towC]
  refine callK_of (hfi _) ?_
  have hret : ∀ env σ, get env 23 = .b true → K3 (some 0) env σ := by
    intro env σ w
    refine h3 _ _ _ ?_
    refine ab_cond_of w (fun _ => ?_) (fun h => by cases h)
    refine ab_seq_k fun K4 h4 => ?_
    simp
    refine callK_of (wk _) ?_
    simp
    refine h4 _ _ _ ?_
    clear h4 K4
    simp
    exact fin_of 1 (by simp [rs8])
  by_cases hct0 : ¬ checkTow T room = 0
  · have hf : fineB T room = false := by simp [fineB, hct0]
    simp [hf]
    exact hret _ _ rfl
  replace hct0 : checkTow T room = 0 := Classical.not_not.1 hct0
  have hf : fineB T room = true := by simp [fineB, hct0]
  by_cases hg2 : (20 : Int) < by_.length
  · simp [hf, hg2]
    exact hret _ _ rfl
  simp [hf, hg2]
  refine h3 _ _ _ ?_
  clear h3 hret K3
  refine ab_cond_of rfl (fun h => by cases h) (fun _ => ?_)
  simp
  refine h2 _ _ _ ?_
  clear h2 K2
  obtain ⟨n1, n7, tb, r0, r7⟩ := tow_len hct0
  have hl9 : (T.length : Int) < 1000000000 := by omega
  have hF := firsts_ok (T := T) (room := room) n1
  have hO := (bestO_spec (T := T) (room := room)).2.1
  obtain ⟨m1, m2, m3⟩ := orders_mem hO
  have hio : isOrd T.length (bestO T room) = true := by unfold isOrd; simp only [decide_eq_true_eq]; exact ⟨m1, m2, m3⟩
  have hgiv := orderBy_ord (by_ := by_) (n := T.length)
  obtain ⟨g1, g2, g3⟩ := isOrd_spec hgiv
  have hbt : timeR T room (bestO T room) = bestT T room := rfl
  have hle := bestT_le (room := room) (orders_all hgiv)
  have hbf := best_first (room := room) hgiv
  have hhas := hF.has _ hgiv
  have G1 := fun σ => FSpec.frame (σ := σ) (prgBest (T := T) (ft := ft) (room := room) hl9) (by simp) (by simp [pairV])
  have G2 := fun σ => FSpec.frame (σ := σ) (prgOrder (T := T) (ft := ft) (room := room) hl9) (by simp) (by simp [orderP, hct0])
  have G3 := fun σ => FSpec.frame (σ := σ) (prgFirsts (T := T) (ft := ft) (room := room) hl9) (by simp) (by simp [firstsP, hct0])
  have G4 := fun σ => FSpec.frame (σ := σ) (isOrder_ok (n := T.length) (o := bestO T room) (fo := false) (by omega) (by omega)) (by simp) rfl
  have G5 : ∀ σ, FSpec Try.prog 43 [towV T ft room, sl (bestO T room) false] σ (.i .i64 (timeR T room (bestO T room))) σ := fun σ => FSpec.frame (timeOf_ok (ft := ft) (fo := false) (room := room) (o := bestO T room) tb r0 r7 (by omega) m2) (by simp) rfl
  have G6 := fun σ => FSpec.frame (σ := σ) (order41 (T := T) (ft := ft) (fb := fb) (room := room) (by_ := by_) n1 n7 (by omega) (fun x hx => by have := hb2 x hx; omega)) (by simp) (by simp)
  have G7 := fun σ => FSpec.frame (σ := σ) (time_ok (T := T) (ft := ft) (fo := false) (room := room) (o := orderBy by_ T.length) hl9 (by omega)) (by simp) (by simp [pairV])
  have G8 := fun σ => FSpec.frame (σ := σ) (before44 (a := orderBy by_ T.length) (b := bestO T room) (fa := false) (fb := false) (by omega) (by omega)) (by simp) rfl
  have hbp : bestP T room = (bestT T room, 0) := by simp [bestP, hct0, bestT]
  have hoE : ordE T room (orderBy by_ T.length) = 0 := by simp [ordE, hct0, hgiv]
  have htp : timeP T room (orderBy by_ T.length) = (timeR T room (orderBy by_ T.length), 0) := by simp [timeP, hoE, timeR]
  simp only [hbp] at G1
  simp only [orderP, hct0, if_true] at G2
  simp only [firstsP, hct0, if_true] at G3
  simp only [hio] at G4
  simp only [hbt] at G5
  simp only [htp] at G7
  have hfl := hF.len
  generalize firstsL T room = f at *
  generalize orderBy by_ T.length = gv at *
  have hf0 : f[0]? = some ((bestO T room).getD 0 0) := by rw [← List.head?_eq_getElem?]; exact hF.head
  have ho0 : (bestO T room)[0]? = some ((bestO T room).getD 0 0) := by simp [List.getD_eq_getElem?_getD, List.getElem?_eq_getElem (show 0 < (bestO T room).length by omega)]
  have hg0 : gv[0]? = some (gv.getD 0 0) := by simp [List.getD_eq_getElem?_getD, List.getElem?_eq_getElem (show 0 < gv.length by omega)]
  generalize bestO T room = bo at *
  generalize hBT : bestT T room = bt at *
  generalize hTG : timeR T room gv = tg at *
  obtain ⟨hf0l, hf0'⟩ := List.getElem?_eq_some_iff.1 hf0
  obtain ⟨ho0l, ho0'⟩ := List.getElem?_eq_some_iff.1 ho0
  obtain ⟨hg0l, hg0'⟩ := List.getElem?_eq_some_iff.1 hg0
  generalize bo.getD 0 0 = b0 at *
  generalize gv.getD 0 0 = g0 at *
  have hfz : (f.length == 0) = false := by rw [beq_eq_false_iff_ne]; omega
  refine ab_seq_k fun K5 h5 => ?_
  simp [take_towC, pairV]
  refine callK_of (G1 _) ?_
  simp [take_towC, pairV]
  refine h5 _ _ _ ?_
  clear h5 K5
  refine ab_seq_k fun K6 h6 => ?_
  simp [take_towC]
  refine callK_of (G2 _) ?_
  simp [take_towC]
  refine h6 _ _ _ ?_
  clear h6 K6
  refine ab_seq_k fun K7 h7 => ?_
  simp [take_towC, hfz]
  refine callK_of (G3 _) ?_
  simp [take_towC, hfz]
  refine h7 _ _ _ ?_
  clear h7 K7
  refine ab_seq_k fun K8 h8 => ?_
  refine ab_seq_k fun K9 h9 => ?_
  have hf1 : ¬ ((f.length : Int) < 1) := by omega
  have hf2 : ¬ ((T.length : Int) < f.length) := by omega
  simp [abDs_consU, drU, recheck_cons, recheck_nil, rcK, IS.dst, take_towC, get0_towC]
  refine callK_of (G4 _) ?_
  simp [abDs_consU, drU, recheck_cons, recheck_nil, rcK, IS.dst, take_towC, get0_towC]
  refine callK_of (G5 _) ?_
  have hfpos : 0 < f.length := by omega
  simp [abDs_consU, drU, recheck_cons, recheck_nil, rcK, IS.dst, take_towC, get0_towC, hf1, hf2, hf0, hf0', ho0, ho0', hfpos, ho0l]
  refine h9 _ _ _ ?_
  clear h9 K9
  refine ab_cond_of rfl (fun h => by cases h) (fun _ => ?_)
  simp
  refine h8 _ _ _ ?_
  clear h8 K8
  refine ab_seq_k fun K10 h10 => ?_
  simp [take_towC]
  refine callK_of (G6 _) ?_
  simp [take_towC]
  refine h10 _ _ _ ?_
  clear h10 K10
  refine ab_seq_k fun K11 h11 => ?_
  simp [take_towC, pairV]
  refine callK_of (G7 _) ?_
  simp [take_towC, pairV]
  refine h11 _ _ _ ?_
  clear h11 K11
  refine ab_seq_k fun K12 h12 => ?_
  refine ab_seq_k fun K13 h13 => ?_
  have hng : ¬ (tg < bt) := by omega
  simp [hng]
  refine h13 _ _ _ ?_
  clear h13 K13
  refine ab_cond_of rfl (fun h => by cases h) (fun _ => ?_)
  simp
  refine h12 _ _ _ ?_
  clear h12 K12
  refine ab_seq_k fun K14 h14 => ?_
  simp
  refine h14 _ _ _ ?_
  clear h14 K14
  refine ab_seq_k fun K15 h15 => ?_
  refine ab_seq_k fun K16 h16 => ?_
  simp
  refine h16 _ _ _ ?_
  clear h16 K16
  refine ab_block_k fun K17 h17 => ?_
  refine ab_loop_k (fun m env σ => ∃ i : Nat, i + m = f.length ∧ env = [(2, .p 0 0 0), (5, .i .i64 bt), (7, sl bo false), (9, .ss (ints f) f.length false), (11, sl gv false), (12, .i .i64 tg), (14, .b (decide (g0 ∈ f.take i))), (15, .i .i64 i)] ∧ σ = [O.row 0 (towC T ft room)]) f.length ⟨0, by omega, by simp, rfl⟩ ?_
  rintro m env σ ⟨i, hi, rfl, rfl⟩ K18 h18
  rw [ic8_0]
  refine ab_seq_k fun K19 h19 => ?_
  refine ab_seq_k fun K20 h20 => ?_
  simp
  refine h20 _ _ _ ?_
  clear h20 K20
  refine ab_cond_of rfl (fun hc => ?_) (fun hc => ?_)
  · have hil : i < f.length := by have := of_decide_eq_true hc; omega
    have hx : f[i]? = some f[i] := List.getElem?_eq_getElem hil
    obtain ⟨r1, r2⟩ := hF.rng _ (List.getElem_mem hil)
    have htk : decide (g0 ∈ f.take (i + 1)) = (decide (g0 ∈ f.take i) || decide (f[i] = g0)) := by
      have e : f.take (i + 1) = f.take i ++ [f[i]] := by rw [List.take_add_one, hx]; rfl
      rw [e, Bool.eq_iff_iff]
      simp only [decide_eq_true_eq, Bool.or_eq_true, List.mem_append, List.mem_singleton]
      constructor
      · rintro (h | h)
        · exact .inl h
        · exact .inr h.symm
      · rintro (h | h)
        · exact .inl h
        · exact .inr h.symm
    have hprev : ∀ j (hj : j < f.length), i = j + 1 → f[j] < f[i] := fun j hj e => List.pairwise_iff_getElem.1 hF.up j i hj hil (by omega)
    generalize hxx : f[i] = x at *
    simp
    refine h19 _ _ _ ?_
    clear h19 K19
    refine ab_seq_k fun K21 h21 => ?_
    refine ab_block_k fun K22 h22 => ?_
    refine ab_seq_k fun K23 h23 => ?_
    refine ab_seq_k fun K24 h24 => ?_
    have hK24 : ∀ env, get env 2 = .p 0 0 0 → get env 5 = .i .i64 bt → get env 7 = sl bo false → get env 9 = .ss (ints f) f.length false → get env 11 = sl gv false → get env 12 = .i .i64 tg → get env 14 = .b (decide (g0 ∈ f.take i)) → get env 15 = .i .i64 i → get env 139 = .b false → K24 (some 0) env [O.row 0 (towC T ft room)] := by
      intro env w2 w5 w7 w9 w11 w12 w14 w15 w139
      refine h24 _ _ _ ?_
      clear h24 K24
      refine ab_cond_of w139 (fun h => by cases h) (fun _ => ?_)
      simp [w2, w5, w7, w9, w11, w12, w14, w15]
      refine h23 _ _ _ ?_
      clear h23 K23
      have hend : ∀ env, get env 2 = .p 0 0 0 → get env 5 = .i .i64 bt → get env 7 = sl bo false → get env 9 = .ss (ints f) f.length false → get env 11 = sl gv false → get env 12 = .i .i64 tg → get env 14 = .b (decide (g0 ∈ f.take (i + 1))) → get env 15 = .i .i64 i → K22 (some 0) env [O.row 0 (towC T ft room)] := by
        intro env w2 w5 w7 w9 w11 w12 w14 w15
        refine h22 _ _ _ ?_
        refine h21 _ _ _ ?_
        simp [w2, w5, w7, w9, w11, w12, w14, w15, wrap64 (x := (i : Int) + 1) (by omega) (by omega)]
        exact h18 _ _ _ (again (m - 1) (by omega) ⟨i + 1, by omega, by simp, rfl⟩)
      cases hct : decide (g0 ∈ f.take i) with
      | true =>
        simp [abDs_consU, drU, recheck_cons, recheck_nil, rcK, IS.dst, w2, w5, w7, w9, w11, w12, w14, w15, hct]
        refine hend _ rfl rfl rfl rfl rfl rfl ?_ rfl
        rw [htk, hct]
        rfl
      | false =>
        simp [abDs_consU, drU, recheck_cons, recheck_nil, rcK, IS.dst, w2, w5, w7, w9, w11, w12, w14, w15, hct, hx, hxx, hil, hg0, hg0', hg0l]
        refine hend _ rfl rfl rfl rfl rfl rfl ?_ rfl
        rw [htk, hct]
        rfl
    have hn1 : ¬ (x < 0) := by omega
    have hn2 : ¬ ((T.length : Int) ≤ x) := by omega
    cases hi0 : i with
    | zero =>
      subst hi0
      simp [abDs_consU, drU, recheck_cons, recheck_nil, rcK, IS.dst, get0_towC, hx, hxx, hil, hn1, hn2]
      exact hK24 _ rfl rfl rfl rfl rfl rfl (by simp) rfl rfl
    | succ j =>
      subst hi0
      have hjl : j < f.length := by omega
      have hz : f[j]? = some f[j] := List.getElem?_eq_getElem hjl
      have hpz := hprev j hjl rfl
      generalize hzz : f[j] = z at *
      have hn3 : ¬ (x ≤ z) := by omega
      simp [abDs_consU, drU, recheck_cons, recheck_nil, rcK, IS.dst, get0_towC, hx, hxx, hil, hn1, hn2, hz, hzz, hn3, wrap64 (x := (j : Int)) (by omega) (by omega)]
      refine ⟨by omega, by omega, by omega, by omega, by omega, by omega, by omega, ?_⟩
      exact hK24 _ rfl rfl rfl rfl rfl rfl rfl (by simp) rfl
  · have hil : i = f.length := by have := of_decide_eq_false hc; omega
    subst hil
    rw [List.take_length]
    simp
    refine h17 _ _ _ ?_
    refine h15 _ _ _ ?_
    refine ab_seq_k fun K25 h25 => ?_
    by_cases hgt : bt < tg
    · simp [hgt]
      refine callK_of (wk _) ?_
      simp
      refine h25 _ _ _ ?_
      simp
      exact fin_of 1 (by simp [rs8])
    · have heq : tg = bt := by omega
      have hm := hhas heq
      have hbf2 := hbf heq
      simp only [hbf2] at G8
      simp [hgt, hm]
      refine callK_of (G8 _) ?_
      simp
      refine callK_of (wk _) ?_
      simp
      refine h25 _ _ _ ?_
      simp
      exact fin_of 1 (by simp [rs8])
end Go.Ab
