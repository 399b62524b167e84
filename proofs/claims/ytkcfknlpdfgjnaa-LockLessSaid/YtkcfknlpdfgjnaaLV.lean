/- Proof, of the reference. -/
import Derived.Test.YtkcfknlpdfgjnaaLU
set_option linter.unusedVariables false
set_option linter.unusedSimpArgs false
set_option maxHeartbeats 4000000
namespace Go.Ab
open Go Go.Proofs

def domS (s : Sp) : Prop := (s.1 = 1 ∨ s.1 = 2) ∧ 0 ≤ s.2
/-- The best of all before one. -/
structure VB (T : Tw) (cur : Sp) (best : Int) (s0 : Sp) : Prop where
  all : ∀ s, domS s → lexS s cur = true → okS T s = true → bS T s ≤ best
  at_ : best = -1 ∨ (domS s0 ∧ lexS s0 cur = true ∧ okS T s0 = true ∧ bS T s0 = best ∧ ∀ s, domS s → lexS s cur = true → okS T s = true → bS T s = best → ¬ lexS s s0 = true)
theorem VB.step {T : Tw} {k t best : Int} {s0 : Sp} (hb : TB T) (hd : domS (k, t)) (h : VB T (k, t) best s0) : (okS T (k, t) = true ∧ best < bS T (k, t) → VB T (k, t + 1) (bS T (k, t)) (k, t)) ∧ (¬ (okS T (k, t) = true ∧ best < bS T (k, t)) → VB T (k, t + 1) best s0) := by
  have hlex : ∀ s, lexS s (k, t + 1) = true → lexS s (k, t) = true ∨ s = (k, t) := by
    rintro ⟨a, b⟩ hs
    simp only [lexS, decide_eq_true_eq, Prod.mk.injEq] at *
    omega
  refine ⟨fun ⟨ho, hlt⟩ => ⟨fun s hs hl hok => ?_, .inr ⟨hd, by simp [lexS]; omega, ho, rfl, fun s hs hl hok he => ?_⟩⟩, fun hn => ⟨fun s hs hl hok => ?_, ?_⟩⟩
  · rcases hlex s hl with h1 | rfl
    · have := h.all s hs h1 hok; omega
    · exact Int.le_refl _
  · rcases hlex s hl with h1 | rfl
    · have := h.all s hs h1 hok; omega
    · simp [lexS]
  · rcases hlex s hl with h1 | rfl
    · exact h.all s hs h1 hok
    · false_or_by_contra
      exact hn ⟨hok, by omega⟩
  · rcases h.at_ with h1 | ⟨h1, h0, h2, h3, h4⟩
    · exact .inl h1
    · refine .inr ⟨h1, by simp only [lexS, decide_eq_true_eq] at *; omega, h2, h3, fun s hs hl hok he => ?_⟩
      rcases hlex s hl with h5 | rfl
      · exact h4 s hs h5 hok he
      · simp only [lexS, decide_eq_true_eq] at *
        omega
theorem VB.next {T : Tw} {k best : Int} {s0 : Sp} (hb : TB T) (h : VB T (k, 1001) best s0) : VB T (k + 1, 0) best s0 := by
  have hlex : ∀ s, domS s → okS T s = true → lexS s (k + 1, 0) = true → lexS s (k, 1001) = true := by
    rintro ⟨a, b⟩ hs hok hl
    obtain ⟨p, hp, hpt⟩ := ok_iff.1 hok
    have := (sA_b (lock := a) (hb p hp)).1.2
    unfold domS at hs
    simp only [lexS, decide_eq_true_eq] at *
    omega
  refine ⟨fun s hs hl hok => h.all s hs (hlex s hs hok hl) hok, ?_⟩
  rcases h.at_ with h1 | ⟨h1, h0, h2, h3, h4⟩
  · exact .inl h1
  · exact .inr ⟨h1, by simp only [lexS, decide_eq_true_eq] at *; omega, h2, h3, fun s hs hl hok he => h4 s hs (hlex s hs hok hl) hok he⟩

def proofP (T : Tw) (room : Int) : V := if checkTow T room = 0 then .tup [.i .i64 (proofS T).1, .i .i64 (proofS T).2, .i .i64 0] else .tup [.i .i64 0, .i .i64 0, .i .i64 (checkTow T room)]
theorem refProof {T : Tw} {ft : Bool} {room : Int} (hl : (T.length : Int) < 1000000000) : FSpec Try.prog 37 [towV T ft room] [] (proofP T room) [] := by
  refine fn37.spec0 mixed noIt_ok ?_
  rw [ic37]
  have hct := fun σ => FSpec.frame (σ := σ) (refTow (T := T) (ft := ft) (room := room) hl) (by simp) rfl
  refine ab_seq_k fun K1 h1 => ?_
  simp
  refine h1 _ _ _ ?_
  clear h1 K1
  refine ab_seq_k fun K2 h2 => ?_
  refine ab_seq_k fun K3 h3 => ?_
  simp [take_towC]
  refine callK_of (hct _) ?_
  simp [take_towC]
  refine h3 _ _ _ ?_
  clear h3 K3
  refine ab_cond_of rfl (fun hc => ?_) (fun hc => ?_)
  · have hne : ¬ checkTow T room = 0 := by simpa using hc
    refine ab_seq_k fun K4 h4 => ?_
    simp [take_towC]
    refine callK_of (hct _) ?_
    simp [take_towC]
    refine h4 _ _ _ ?_
    clear h4 K4
    simp
    exact fin_of 1 (by simp [rs37, proofP, hne])
  have hct0 : checkTow T room = 0 := by simpa using hc
  obtain ⟨n1, n7, tb, r0, r7⟩ := tow_len hct0
  obtain ⟨hP, -, -⟩ := proof_is tb n1
  have hbd := fun k t (h0 : -1 ≤ t) (h1 : t ≤ 100000) σ => FSpec.frame (σ := σ) (boundOf_ok (T := T) (ft := ft) (room := room) (lock := k) (t := t) tb (by omega) h0 h1) (by simp) (by simp)
  simp
  refine h2 _ _ _ ?_
  clear h2 K2
  refine ab_seq_k fun K4 h4 => ?_
  simp
  refine h4 _ _ _ ?_
  clear h4 K4
  refine ab_seq_k fun K5 h5 => ?_
  refine ab_seq_k fun K6 h6 => ?_
  simp
  refine h6 _ _ _ ?_
  clear h6 K6
  refine ab_block_k fun K7 h7 => ?_
  refine ab_loop_k (fun m env σ => ∃ (k : Nat) (best : Int) (s0 : Sp), k + m = 3 ∧ 1 ≤ k ∧ VB T (k, 0) best s0 ∧ -1 ≤ best ∧ env = [(1, .p 0 0 0), (5, .i .i64 best), (6, .i .i64 s0.1), (7, .i .i64 s0.2), (8, .i .i64 k)] ∧ σ = [O.row 0 (towC T ft room)]) 2
    ⟨1, -1, (0, 0), by omega, by omega, ⟨fun s hs hl hok => ?_, .inl rfl⟩, by omega, by simp, rfl⟩ ?_
  · unfold domS at hs
    simp only [lexS, decide_eq_true_eq] at hl
    omega
  rintro m env σ ⟨k, best, s0, hk, hk1, hvb, hbm, rfl, rfl⟩ K8 h8
  rw [ic37_1]
  refine ab_seq_k fun K9 h9 => ?_
  refine ab_seq_k fun K10 h10 => ?_
  simp
  refine h10 _ _ _ ?_
  clear h10 K10
  refine ab_cond_of rfl (fun hc => ?_) (fun hc => ?_)
  · have hk2 : k ≤ 2 := by simp at hc; omega
    simp
    refine h9 _ _ _ ?_
    clear h9 K9
    refine ab_seq_k fun K11 h11 => ?_
    refine ab_block_k fun K12 h12 => ?_
    refine ab_seq_k fun K13 h13 => ?_
    simp
    refine h13 _ _ _ ?_
    clear h13 K13
    refine ab_block_k fun K14 h14 => ?_
    refine ab_loop_k (fun m env σ => ∃ (t : Nat) (best : Int) (s0 : Sp), t + m = 1001 ∧ VB T (k, t) best s0 ∧ -1 ≤ best ∧ env = [(1, .p 0 0 0), (5, .i .i64 best), (6, .i .i64 s0.1), (7, .i .i64 s0.2), (8, .i .i64 k), (9, .i .i64 t)] ∧ σ = [O.row 0 (towC T ft room)]) 1001
      ⟨0, best, s0, by omega, hvb, hbm, by simp, rfl⟩ ?_
    clear hvb hbm best s0
    rintro m2 env σ ⟨t, best, s0, ht, hvb, hbm, rfl, rfl⟩ K15 h15
    rw [ic37_0]
    refine ab_seq_k fun K16 h16 => ?_
    refine ab_seq_k fun K17 h17 => ?_
    simp
    refine h17 _ _ _ ?_
    clear h17 K17
    refine ab_cond_of rfl (fun hc2 => ?_) (fun hc2 => ?_)
    · have ht2 : t ≤ 1000 := by simp at hc2; omega
      simp
      refine h16 _ _ _ ?_
      clear h16 K16
      refine ab_seq_k fun K18 h18 => ?_
      refine ab_block_k fun K19 h19 => ?_
      obtain ⟨v1, v2⟩ := hvb.step tb ⟨by simp only; omega, by simp only; omega⟩
      have hge := b_ge tb (s := ((k : Int), (t : Int)))
      simp only at hge
      have hend : ∀ env best' (s' : Sp), get env 1 = .p 0 0 0 → get env 5 = .i .i64 best' → get env 6 = .i .i64 s'.1 → get env 7 = .i .i64 s'.2 → get env 8 = .i .i64 k → get env 9 = .i .i64 t → VB T (k, t + 1) best' s' → -1 ≤ best' → K19 (some 0) env [O.row 0 (towC T ft room)] := by
        intro env best' s' w1 w5 w6 w7 w8 w9 a1 a2
        refine h19 _ _ _ ?_
        refine h18 _ _ _ ?_
        simp [w1, w5, w6, w7, w8, w9, wrap64 (x := (t : Int) + 1) (by omega) (by omega)]
        exact h15 _ _ _ (again (m2 - 1) (by omega) ⟨t + 1, best', s', by omega, a1, a2, by simp, rfl⟩)
      refine ab_seq_k fun K20 h20 => ?_
      simp [take_towC]
      refine callK_of (hbd k t (by omega) (by omega) _) ?_
      simp [take_towC]
      refine h20 _ _ _ ?_
      clear h20 K20
      have hbs : (boundF T k t).1 = bS T (k, t) := rfl
      have hos : (boundF T k t).2 = okS T (k, t) := rfl
      rw [hbs, hos]
      refine ab_seq_k fun K21 h21 => ?_
      cases hok : okS T (k, t) with
      | false =>
        simp
        refine h21 _ _ _ ?_
        refine ab_cond_of rfl (fun hc => by cases hc) (fun hc => ?_)
        simp
        exact hend _ _ s0 rfl rfl rfl rfl rfl rfl (v2 (by rw [hok]; simp)) hbm
      | true =>
        simp
        refine h21 _ _ _ ?_
        refine ab_cond_of rfl (fun hc => ?_) (fun hc => ?_)
        · have hgt : best < bS T (k, t) := by simpa using hc
          simp
          exact hend _ _ (k, t) rfl rfl rfl rfl rfl rfl (v1 ⟨hok, hgt⟩) (by omega)
        · have hgt : ¬ best < bS T (k, t) := by simpa using hc
          simp
          exact hend _ _ s0 rfl rfl rfl rfl rfl rfl (v2 (fun h => hgt h.2)) hbm
    · have ht2 : t = 1001 := by simp at hc2; omega
      subst ht2
      simp
      refine h14 _ _ _ ?_
      refine h12 _ _ _ ?_
      refine h11 _ _ _ ?_
      simp [wrap64 (x := (k : Int) + 1) (by omega) (by omega)]
      exact h8 _ _ _ (again (m - 1) (by omega) ⟨k + 1, best, s0, by omega, by omega, hvb.next tb, hbm, by simp, rfl⟩)
  · have hk3 : k = 3 := by simp at hc; omega
    subst hk3
    have hres : s0 = proofS T := by
      have hdom : ∀ s, domS s → lexS s (((3 : Nat) : Int), 0) = true := by
        intro s hs
        unfold domS at hs
        simp only [lexS, decide_eq_true_eq]
        omega
      have h1 := hvb.all _ ⟨hP.lock, hP.t0⟩ (hdom _ ⟨hP.lock, hP.t0⟩) hP.ok
      have h2 := b_ge tb (s := proofS T)
      have h3 := hP.t0
      rcases hvb.at_ with h | ⟨a1, a0, a2, a3, a4⟩
      · omega
      · refine IsProof.uniq ⟨a1.1, a1.2, ?_, a2, fun s' b1 b2 b3 => by rw [a3]; exact hvb.all s' ⟨b1, b2⟩ (hdom _ ⟨b1, b2⟩) b3, fun s' b1 b2 b3 b4 => a4 s' ⟨b1, b2⟩ (hdom _ ⟨b1, b2⟩) b3 (by rw [b4, a3])⟩ hP
        obtain ⟨p, hp, hpt⟩ := ok_iff.1 a2
        have := (sA_b (lock := s0.1) (tb p hp)).1.2
        omega
    subst hres
    simp
    refine h7 _ _ _ ?_
    refine h5 _ _ _ ?_
    refine ab_seq_k fun K22 h22 => ?_
    simp
    refine h22 _ _ _ ?_
    clear h22 K22
    simp
    exact fin_of 1 (by simp [rs37, proofP, hct0])
end Go.Ab
