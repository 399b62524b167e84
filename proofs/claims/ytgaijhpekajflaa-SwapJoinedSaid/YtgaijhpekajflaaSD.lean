/- The definition of valid books. -/
import Derived.Test.YtgaijhpekajflaaSC
set_option linter.unusedVariables false
set_option linter.unusedSimpArgs false
set_option maxHeartbeats 4000000
set_option maxRecDepth 100000
namespace Go.Ab
open Go Go.Proofs

def isDebtB (n : Int) (d : Db) : Bool := decide (0 ≤ d.1) && decide (d.1 < n) && decide (0 ≤ d.2.1) && decide (d.2.1 < n) && decide (d.1 ≠ d.2.1)
theorem stray_is {n : Int} {d : Db} : strayD n d = !isDebtB n d := by
  unfold strayD isDebtB fit
  rw [Bool.eq_iff_iff]
  simp
  omega
theorem isDebt60 {n : Int} {D : List Db} {f : Bool} {d : Db} : FSpec Try.prog 60 [bookV n D f, .agg [.i .i64 d.1, .i .i64 d.2.1, .i .i64 d.2.2]] [] (.b (isDebtB n d)) [] := by
  refine fn60.spec0 mixed noIt_ok ?_
  rw [ic60]
  refine ab_seq_k fun K1 h1 => ?_
  simp
  refine h1 _ _ _ ?_
  clear h1 K1
  refine ab_seq_k fun K2 h2 => ?_
  by_cases a1 : 0 ≤ d.1
  case neg =>
    simp [get0_bookC, a1]
    refine h2 _ _ _ ?_
    simp
    exact fin_of 1 (by simp [rs60, isDebtB, a1])
  by_cases a2 : d.1 < n
  case neg =>
    simp [get0_bookC, a1, a2]
    refine h2 _ _ _ ?_
    simp
    exact fin_of 1 (by simp [rs60, isDebtB, a1, a2])
  by_cases a3 : 0 ≤ d.2.1
  case neg =>
    simp [get0_bookC, a1, a2, a3]
    refine h2 _ _ _ ?_
    simp
    exact fin_of 1 (by simp [rs60, isDebtB, a1, a2, a3])
  by_cases a4 : d.2.1 < n
  case neg =>
    simp [get0_bookC, a1, a2, a3, a4]
    refine h2 _ _ _ ?_
    simp
    exact fin_of 1 (by simp [rs60, isDebtB, a1, a2, a3, a4])
  by_cases a5 : d.1 = d.2.1
  · rw [a5] at a1 a2
    simp [get0_bookC, a5, a1, a2, a3, a4]
    refine h2 _ _ _ ?_
    simp
    exact fin_of 1 (by simp [rs60, isDebtB, a1, a2, a3, a4, a5])
  · simp [get0_bookC, a1, a2, a3, a4, a5]
    refine h2 _ _ _ ?_
    simp
    exact fin_of 1 (by simp [rs60, isDebtB, a1, a2, a3, a4, a5])
theorem pr_eq {d e : Db} : pr d = pr e ↔ d.1 = e.1 ∧ d.2.1 = e.2.1 := by simp [pr]

theorem refBook {n : Int} {D : List Db} {f : Bool} (hl : (D.length : Int) < 9223372036854775808) : FSpec Try.prog 22 [bookV n D f] [] (.i .i64 (checkBook n D)) [] := by
  refine fn22.spec0 mixed noIt_ok ?_
  rw [ic22]
  have hdb := fun (d : Db) σ => FSpec.frame (σ := σ) (isDebt60 (n := n) (D := D) (f := f) (d := d)) (by simp) rfl
  refine ab_seq_k fun K1 h1 => ?_
  simp
  refine h1 _ _ _ ?_
  clear h1 K1
  refine ab_seq_k fun K2 h2 => ?_
  refine ab_seq_k fun K3 h3 => ?_
  have hret : ∀ env σ, (!fit 1 10 n || decide ((40 : Int) < D.length)) = true → get env 20 = .b true → K3 (some 0) env σ := by
    intro env σ hx w
    refine h3 _ _ _ ?_
    refine ab_cond_of w (fun _ => ?_) (fun h => by cases h)
    refine ab_seq_k fun K4 h4 => ?_
    simp
    refine h4 _ _ _ ?_
    clear h4 K4
    simp
    exact fin_of 1 (by simp [rs22, checkBook, hx])
  by_cases q1 : n < 1
  · simp [get0_bookC, q1]
    exact hret _ _ (by simp [fit]; omega) rfl
  by_cases q2 : (10 : Int) < n
  · simp [get0_bookC, q1, q2]
    exact hret _ _ (by simp [fit]; omega) rfl
  by_cases hg : (40 : Int) < D.length
  · simp [get0_bookC, get1_bookC, q1, q2, hg]
    exact hret _ _ (by simp [hg]) rfl
  have hif : ¬ (!fit 1 10 n || decide ((40 : Int) < D.length)) = true := by simp [fit, hg]; omega
  simp [get0_bookC, get1_bookC, q1, q2, hg]
  refine h3 _ _ _ ?_
  clear h3 hret K3
  refine ab_cond_of rfl (fun h => by cases h) (fun _ => ?_)
  simp
  refine h2 _ _ _ ?_
  clear h2 K2
  have hcb : checkBook n D = if checkD n D 1000000 ≠ 0 then checkD n D 1000000 else if (D.map pr).Nodup then 0 else 16 := by rw [checkBook, if_neg hif]
  refine ab_seq_k fun K5 h5 => ?_
  refine ab_seq_k fun K6 h6 => ?_
  simp
  refine h6 _ _ _ ?_
  clear h6 K6
  refine ab_block_k fun K7 h7 => ?_
  refine ab_loop_k (fun m env σ => ∃ i : Nat, i + m = D.length ∧ (D.take i).any (strayD n) = false ∧ env = [(1, .p 0 0 0), (3, .i .i64 i)] ∧ σ = [.row 0 (bookC n D f)]) D.length ⟨0, by omega, by simp, by simp, rfl⟩ ?_
  rintro m env σ ⟨i, hi, hpre, rfl, rfl⟩ K8 h8
  rw [ic22_0]
  refine ab_seq_k fun K9 h9 => ?_
  refine ab_seq_k fun K10 h10 => ?_
  simp [get1_bookC]
  refine h10 _ _ _ ?_
  clear h10 K10
  refine ab_cond_of rfl (fun hc => ?_) (fun hc => ?_)
  · have hil : i < D.length := by simpa using hc
    obtain ⟨d, hd⟩ : ∃ d, D[i]? = some d := ⟨_, List.getElem?_eq_getElem hil⟩
    obtain ⟨z1, z2, z3, z4⟩ := lsD_get hd
    have hm3 : min 3 (D.length * 3 - i * 3) = 3 := by omega
    have hle : i * 3 + 3 ≤ D.length * 3 := by omega
    have hstep : (D.take (i + 1)).any (strayD n) = strayD n d := by rw [List.take_add_one, hd]; simp [hpre]
    simp
    refine h9 _ _ _ ?_
    clear h9 K9
    refine ab_seq_k fun K11 h11 => ?_
    refine ab_block_k fun K12 h12 => ?_
    refine ab_seq_k fun K13 h13 => ?_
    simp [abDs_consU, drU, recheck_cons, recheck_nil, rcK, IS.dst, get1_bookC, take_bookC, hil, z1, hm3, hle]
    refine callK_of (hdb d _) ?_
    simp [abDs_consU, drU, recheck_cons, recheck_nil, rcK, IS.dst]
    refine h13 _ _ _ ?_
    clear h13 K13
    refine ab_cond_of rfl (fun hb => ?_) (fun hb => ?_)
    · have hany : D.any (strayD n) = true := List.any_eq_true.2 ⟨d, List.mem_of_getElem? hd, by rw [stray_is]; exact hb⟩
      refine ab_seq_k fun K14 h14 => ?_
      simp
      refine h14 _ _ _ ?_
      clear h14 K14
      simp
      exact fin_of 1 (by simp only [rs22, hcb, checkD, hany, if_true]; simp)
    · have hsd : strayD n d = false := by rw [stray_is]; exact hb
      simp
      refine h12 _ _ _ ?_
      refine h11 _ _ _ ?_
      simp [wrap64 (x := (i : Int) + 1) (by omega) (by omega)]
      exact h8 _ _ _ (again (m - 1) (by omega) ⟨i + 1, by omega, by rw [hstep, hsd], by simp, rfl⟩)
  · have hil : i = D.length := by simp at hc; omega
    subst hil
    rw [List.take_length] at hpre
    simp
    refine h7 _ _ _ ?_
    refine h5 _ _ _ ?_
    clear h5 h7 h8 h9
    refine ab_seq_k fun K15 h15 => ?_
    refine ab_seq_k fun K16 h16 => ?_
    simp
    refine h16 _ _ _ ?_
    clear h16 K16
    refine ab_block_k fun K17 h17 => ?_
    refine ab_loop_k (fun m env σ => ∃ i : Nat, i + m = D.length ∧ ((D.take i).any fun d => !fit 1 1000000 d.2.2) = false ∧ env = [(1, .p 0 0 0), (4, .i .i64 i)] ∧ σ = [.row 0 (bookC n D f)]) D.length ⟨0, by omega, by simp, by simp, rfl⟩ ?_
    rintro m env σ ⟨i, hi, hpre2, rfl, rfl⟩ K18 h18
    rw [ic22_1]
    refine ab_seq_k fun K19 h19 => ?_
    refine ab_seq_k fun K20 h20 => ?_
    simp [get1_bookC]
    refine h20 _ _ _ ?_
    clear h20 K20
    refine ab_cond_of rfl (fun hc => ?_) (fun hc => ?_)
    · have hil : i < D.length := by simpa using hc
      obtain ⟨d, hd⟩ : ∃ d, D[i]? = some d := ⟨_, List.getElem?_eq_getElem hil⟩
      obtain ⟨z1, z2, z3, z4⟩ := lsD_get hd
      obtain ⟨hz4, z4'⟩ := List.getElem?_eq_some_iff.1 z4
      have hstep : ((D.take (i + 1)).any fun d => !fit 1 1000000 d.2.2) = !fit 1 1000000 d.2.2 := by rw [List.take_add_one, hd]; simp [hpre2]
      simp
      refine h19 _ _ _ ?_
      clear h19 K19
      refine ab_seq_k fun K21 h21 => ?_
      refine ab_block_k fun K22 h22 => ?_
      refine ab_seq_k fun K23 h23 => ?_
      have hK23 : ∀ env v, get env 1 = .p 0 0 0 → get env 4 = .i .i64 i → get env 58 = .b v → v = (!fit 1 1000000 d.2.2) → K23 (some 0) env [.row 0 (bookC n D f)] := by
        intro env v w1 w4 w hv
        refine h23 _ _ _ ?_
        clear h23 K23
        refine ab_cond_of w (fun hb => ?_) (fun hb => ?_)
        · have hany : (D.any fun d => !fit 1 1000000 d.2.2) = true := List.any_eq_true.2 ⟨d, List.mem_of_getElem? hd, by rw [← hv, hb]⟩
          refine ab_seq_k fun K24 h24 => ?_
          simp
          refine h24 _ _ _ ?_
          clear h24 K24
          simp
          exact fin_of 1 (by simp only [rs22, hcb, checkD, hpre, hany]; simp)
        · simp
          refine h22 _ _ _ ?_
          refine h21 _ _ _ ?_
          simp [w1, w4, wrap64 (x := (i : Int) + 1) (by omega) (by omega)]
          exact h18 _ _ _ (again (m - 1) (by omega) ⟨i + 1, by omega, by rw [hstep, ← hv, hb], by simp, rfl⟩)
      clear h23
      by_cases e1 : d.2.2 < 1
      · simp [get1_bookC, hil, z4, z4', e1]
        exact hK23 _ true rfl rfl rfl (by simp [fit_not, e1])
      · simp [get1_bookC, hil, z4, z4', e1]
        exact hK23 _ _ rfl rfl rfl (by simp [fit_not, e1])
    · have hil : i = D.length := by simp at hc; omega
      subst hil
      rw [List.take_length] at hpre2
      have hcd : checkD n D 1000000 = 0 := by simp only [checkD, hpre, hpre2]; rfl
      have hcb2 : checkBook n D = if (D.map pr).Nodup then 0 else 16 := by rw [hcb, if_neg (by simp [hcd])]
      clear hcb
      simp
      refine h17 _ _ _ ?_
      refine h15 _ _ _ ?_
      clear h15 h17 h18 h19
      refine ab_seq_k fun K25 h25 => ?_
      refine ab_seq_k fun K26 h26 => ?_
      simp
      refine h26 _ _ _ ?_
      clear h26 K26
      refine ab_block_k fun K27 h27 => ?_
      refine ab_loop_k (fun m env σ => ∃ i : Nat, i + m = D.length ∧ ((D.take i).map pr).Nodup ∧ env = [(1, .p 0 0 0), (5, .i .i64 i)] ∧ σ = [.row 0 (bookC n D f)]) D.length ⟨0, by omega, by simp, by simp, rfl⟩ ?_
      rintro m env σ ⟨i, hi, hnd, rfl, rfl⟩ K28 h28
      rw [ic22_3]
      refine ab_seq_k fun K29 h29 => ?_
      refine ab_seq_k fun K30 h30 => ?_
      simp [get1_bookC]
      refine h30 _ _ _ ?_
      clear h30 K30
      refine ab_cond_of rfl (fun hc => ?_) (fun hc => ?_)
      · have hil : i < D.length := by simpa using hc
        obtain ⟨d, hd⟩ : ∃ d, D[i]? = some d := ⟨_, List.getElem?_eq_getElem hil⟩
        obtain ⟨z1, z2, z3, z4⟩ := lsD_get hd
        obtain ⟨hz2, z2'⟩ := List.getElem?_eq_some_iff.1 z2
        obtain ⟨hz3, z3'⟩ := List.getElem?_eq_some_iff.1 z3
        have hstep : (D.take (i + 1)).map pr = (D.take i).map pr ++ [pr d] := by rw [List.take_add_one, hd]; simp
        simp
        refine h29 _ _ _ ?_
        clear h29 K29
        refine ab_seq_k fun K31 h31 => ?_
        refine ab_block_k fun K32 h32 => ?_
        refine ab_seq_k fun K33 h33 => ?_
        simp
        refine h33 _ _ _ ?_
        clear h33 K33
        refine ab_block_k fun K34 h34 => ?_
        refine ab_loop_k (fun m env σ => ∃ k : Nat, k + m = i ∧ pr d ∉ (D.take k).map pr ∧ env = [(1, .p 0 0 0), (5, .i .i64 i), (6, .i .i64 k)] ∧ σ = [.row 0 (bookC n D f)]) i ⟨0, by omega, by simp, by simp, rfl⟩ ?_
        rintro m2 env σ ⟨k, hk, hnk, rfl, rfl⟩ K35 h35
        rw [ic22_2]
        refine ab_seq_k fun K36 h36 => ?_
        refine ab_seq_k fun K37 h37 => ?_
        simp
        refine h37 _ _ _ ?_
        clear h37 K37
        refine ab_cond_of rfl (fun hc2 => ?_) (fun hc2 => ?_)
        · have hki : k < i := by simpa using hc2
          have hkl : k < D.length := by omega
          obtain ⟨e, he⟩ : ∃ e, D[k]? = some e := ⟨_, List.getElem?_eq_getElem hkl⟩
          obtain ⟨y1, y2, y3, y4⟩ := lsD_get he
          obtain ⟨hy2, y2'⟩ := List.getElem?_eq_some_iff.1 y2
          obtain ⟨hy3, y3'⟩ := List.getElem?_eq_some_iff.1 y3
          have hstepk : (D.take (k + 1)).map pr = (D.take k).map pr ++ [pr e] := by rw [List.take_add_one, he]; simp
          simp
          refine h36 _ _ _ ?_
          clear h36 K36
          refine ab_seq_k fun K38 h38 => ?_
          refine ab_block_k fun K39 h39 => ?_
          refine ab_seq_k fun K40 h40 => ?_
          have hK40 : ∀ env v, get env 1 = .p 0 0 0 → get env 5 = .i .i64 i → get env 6 = .i .i64 k → get env 98 = .b v → v = decide (pr d = pr e) → K40 (some 0) env [.row 0 (bookC n D f)] := by
            intro env v w1 w5 w6 w hv
            refine h40 _ _ _ ?_
            clear h40 K40
            refine ab_cond_of w (fun hb => ?_) (fun hb => ?_)
            · have heq : pr d = pr e := by rw [hv] at hb; exact of_decide_eq_true hb
              have hnn : ¬ (D.map pr).Nodup := by
                intro h
                have h1 : (D.map pr)[i]? = some (pr d) := by rw [List.getElem?_map, hd]; rfl
                have h2 : (D.map pr)[k]? = some (pr e) := by rw [List.getElem?_map, he]; rfl
                obtain ⟨l1, g1⟩ := List.getElem?_eq_some_iff.1 h1
                obtain ⟨l2, g2⟩ := List.getElem?_eq_some_iff.1 h2
                exact List.pairwise_iff_getElem.1 h k i l2 l1 hki (by rw [g1, g2, heq])
              refine ab_seq_k fun K41 h41 => ?_
              simp
              refine h41 _ _ _ ?_
              clear h41 K41
              simp
              exact fin_of 1 (by simp only [rs22, hcb2]; rw [if_neg hnn]; simp)
            · have hne : ¬ pr d = pr e := by rw [hv] at hb; exact of_decide_eq_false hb
              simp
              refine h39 _ _ _ ?_
              refine h38 _ _ _ ?_
              simp [w1, w5, w6, wrap64 (x := (k : Int) + 1) (by omega) (by omega)]
              refine h35 _ _ _ (again (m2 - 1) (by omega) ⟨k + 1, by omega, ?_, by simp, rfl⟩)
              rw [hstepk, List.mem_append]
              rintro (h | h)
              · exact hnk h
              · simp at h; exact hne h
          clear h40
          by_cases e1 : d.1 = e.1
          · simp [abDs_consU, drU, recheck_cons, recheck_nil, rcK, IS.dst, get1_bookC, hil, hkl, z2, z2', z3, z3', y2, y2', y3, y3', e1]
            exact hK40 _ _ rfl rfl rfl rfl (by simp [pr_eq, e1])
          · simp [abDs_consU, drU, recheck_cons, recheck_nil, rcK, IS.dst, get1_bookC, hil, hkl, z2, z2', z3, z3', y2, y2', y3, y3', e1]
            exact hK40 _ false rfl rfl rfl rfl (by simp [pr_eq, e1])
        · have hki : k = i := by simp at hc2; omega
          subst hki
          simp
          refine h34 _ _ _ ?_
          refine h32 _ _ _ ?_
          refine h31 _ _ _ ?_
          simp [wrap64 (x := (k : Int) + 1) (by omega) (by omega)]
          refine h28 _ _ _ (again (m - 1) (by omega) ⟨k + 1, by omega, ?_, by simp, rfl⟩)
          rw [hstep, List.nodup_append]
          refine ⟨hnd, by simp, fun a ha b hb => ?_⟩
          simp at hb
          subst hb
          rintro rfl
          exact hnk ha
      · have hil : i = D.length := by simp at hc; omega
        subst hil
        rw [List.take_length] at hnd
        simp
        refine h27 _ _ _ ?_
        refine h25 _ _ _ ?_
        refine ab_seq_k fun K42 h42 => ?_
        simp
        refine h42 _ _ _ ?_
        clear h42 K42
        simp
        exact fin_of 1 (by simp only [rs22, hcb2]; rw [if_pos hnd]; simp)

def fineB (n : Int) (D : List Db) : Bool := decide (checkBook n D = 0)
theorem fine45 {n : Int} {D : List Db} {f : Bool} (hl : (D.length : Int) < 9223372036854775808) : FSpec Try.prog 45 [bookV n D f] [] (.b (fineB n D)) [] := by
  refine fn45.spec0 mixed noIt_ok ?_
  rw [ic45]
  have h1 := fun σ => FSpec.frame (σ := σ) (great17 (n := n) (D := D) (f := f)) (by simp) rfl
  have h2 := fun σ => FSpec.frame (σ := σ) (refBook (n := n) (D := D) (f := f) hl) (by simp) rfl
  refine ab_seq_k fun K1 h1 => ?_
  simp
  refine h1 _ _ _ ?_
  clear h1 K1
  refine ab_seq_k fun K2 hk2 => ?_
  simp [take_bookC]
  refine callK_of (h1 _) ?_
  by_cases hg : (50 : Int) < D.length
  · have : checkBook n D ≠ 0 := by
      unfold checkBook
      rw [if_pos (by simp; omega)]
      decide
    simp [hg]
    refine hk2 _ _ _ ?_
    simp
    exact fin_of 1 (by simp [rs45, fineB, this])
  · simp [hg, take_bookC]
    refine callK_of (h2 _) ?_
    simp
    refine hk2 _ _ _ ?_
    simp
    exact fin_of 1 (by simp [rs45, fineB])
end Go.Ab
