/- Ledgers of books, the definitions of sums, even sets and the most groups. -/
import Derived.Test.YtgaijhpekajflaaSF
import Derived.Test.YtgaijhpekajflaaSN
set_option linter.unusedVariables false
set_option linter.unusedSimpArgs false
set_option maxHeartbeats 4000000
set_option maxRecDepth 100000
namespace Go.Ab
open Go Go.Proofs

def ledT (N : Nat) (D : List Db) (f : Bool) : V := ledV N D f (balF D) (evens (balF D) N) (prL (evF (balF D) N) N (2 ^ N))
@[simp] theorem pure_ledT {N D f} : (ledT N D f).pure = true := by
  refine pure_ledC (pure_mpV fun e he => ?_) (by simp)
  obtain ⟨s, hs, rfl⟩ := entsTo_mem.1 (List.mem_filter.1 he).1
  rfl
def openV (n : Int) (D : List Db) (f : Bool) : V := if checkBook n D = 0 then .tup [ledT n.toNat D f, .i .i64 0] else .tup [.np, .i .i64 (checkBook n D)]
theorem openV_pure {n D f} : (openV n D f).pure = true := by
  unfold openV
  split
  · show pureL [ledT _ _ _, _] = true
    simp [pureL_all]
  · rfl
/-- A valid book: as many mills, as debts. -/
theorem book_nat {n : Int} {D : List Db} (h : checkBook n D = 0) : ∃ N : Nat, n = (N : Int) ∧ 1 ≤ N ∧ N ≤ 10 ∧ D.length ≤ 40 ∧ DbOK N 1000000 D := by
  obtain ⟨⟨n1, n2⟩, hlen, hD, -⟩ := book_ok h
  refine ⟨n.toNat, by omega, by omega, by omega, hlen, ?_⟩
  rw [show ((n.toNat : Nat) : Int) = n by omega]
  exact hD
theorem open61 {n : Int} {D : List Db} {f : Bool} (hl : (D.length : Int) < 9223372036854775808) : FSpec Try.prog 61 [bookV n D f] [] (openV n D f) [] := by
  refine fn61.spec0 mixed noIt_ok ?_
  rw [ic61]
  have hb := fun σ => FSpec.frame (σ := σ) (checkBook_ok (n := n) (D := D) (f := f) hl) (by simp) rfl
  refine ab_seq_k fun K1 h1 => ?_
  simp
  refine h1 _ _ _ ?_
  clear h1 K1
  refine ab_seq_k fun K2 h2 => ?_
  refine ab_seq_k fun K3 h3 => ?_
  simp [take_bookC]
  refine callK_of (hb _) ?_
  simp [take_bookC]
  refine h3 _ _ _ ?_
  clear h3 K3
  refine ab_seq_k fun K5 h5 => ?_
  simp
  refine h5 _ _ _ ?_
  clear h5 K5
  by_cases hc : checkBook n D = 0
  case neg =>
    refine ab_cond_of rfl (fun _ => ?_) (fun h => by simp [hc] at h)
    refine ab_seq_k fun K6 h6 => ?_
    simp
    refine h6 _ _ _ ?_
    clear h6 K6
    simp
    exact fin_of 1 (by simp [rs61, openV, hc])
  refine ab_cond_of rfl (fun h => by simp [hc] at h) (fun _ => ?_)
  obtain ⟨N, rfl, hN1, hN, hlen, hD⟩ := book_nat hc
  simp
  refine h2 _ _ _ ?_
  clear h2 K2
  have hL : ∀ σ, FSpec Try.prog 82 [bookV N D f] σ (ledT N D f) σ := fun σ => FSpec.frame (σ := σ) (newLedger82 (M := 0) (f := f) rfl hN1 hN hD hlen) (by simp) pure_ledT
  refine ab_seq_k fun K6 h6 => ?_
  simp [take_bookC]
  refine callK_of (hL _) ?_
  simp [take_bookC]
  refine h6 _ _ _ ?_
  clear h6 K6
  simp
  exact fin_of 1 (by simp [rs61, openV, hc])

section
variable {N W : Nat} {D : List Db} {f : Bool}
theorem all33 (hN : N ≤ 10) (hW : 2 ^ N = W) : FSpec Try.prog 33 [bookV N D f] [] (.i .i64 ((W : Int) - 1)) [] := by
  refine fn33.spec0 mixed noIt_ok ?_
  rw [ic33]
  have hp := pow_small hN
  have e1 := shl_nat (m := N) (by omega)
  have e2 := shl_nat' (m := N) (by omega)
  rw [hW] at hp e1 e2
  refine ab_seq_k fun K1 h1 => ?_
  simp
  refine h1 _ _ _ ?_
  clear h1 K1
  refine ab_seq_k fun K2 h2 => ?_
  simp [get0_bookC, e1, e2]
  rw [wrap64 (by omega) (by omega)]
  refine h2 _ _ _ ?_
  simp
  exact fin_of 1 (by simp [rs33])
theorem bal_small (hD : DbOK N 1000000 D) (hl : D.length ≤ 40) (i : Nat) : -2000000000 ≤ balF D i ∧ balF D i ≤ 2000000000 := by
  have := balF_small (M := 1000000) (by omega) (by omega) hD (by omega) i D.length (Nat.le_refl _)
  rw [List.take_length] at this
  exact this
theorem sum50 {s : Nat} (hN : N ≤ 10) (hD : DbOK N 1000000 D) (hl : D.length ≤ 40) (hs : s < 9223372036854775808) : FSpec Try.prog 50 [bookV N D f, .i .i64 s] [] (.i .i64 (sumF (balF D) s N)) [] := by
  refine fn50.spec0 mixed noIt_ok ?_
  rw [ic50]
  have hB := fun σ => FSpec.frame (σ := σ) (bal47 (f := f) (M := 1000000) (by omega) (by omega) hD (by omega) rfl hN) (by simp) (by simp)
  have hF := bal_small hD hl
  generalize balF D = F at *
  refine ab_seq_k fun K1 h1 => ?_
  simp
  refine h1 _ _ _ ?_
  clear h1 K1
  refine ab_seq_k fun K2 h2 => ?_
  simp
  refine h2 _ _ _ ?_
  clear h2 K2
  refine ab_seq_k fun K3 h3 => ?_
  simp [take_bookC]
  refine callK_of (hB _) ?_
  simp [take_bookC]
  refine h3 _ _ _ ?_
  clear h3 K3
  refine ab_seq_k fun K4 h4 => ?_
  refine ab_seq_k fun K5 h5 => ?_
  simp
  refine h5 _ _ _ ?_
  clear h5 K5
  refine ab_block_k fun K6 h6 => ?_
  refine ab_loop_k (fun m env σ => ∃ i : Nat, i + m = N ∧ env = [(1, .i .i64 s), (2, .p 0 0 0), (5, .i .i64 (sumF F s i)), (6, sl (rowF N F) false), (7, .i .i64 i)] ∧ σ = [O.row 0 (bookC N D f)]) N ⟨0, by omega, by simp [sumF], rfl⟩ ?_
  rintro m env σ ⟨i, hi, rfl, rfl⟩ K7 h7
  rw [ic50_0]
  refine ab_seq_k fun K8 h8 => ?_
  refine ab_seq_k fun K9 h9 => ?_
  simp [get0_bookC]
  refine h9 _ _ _ ?_
  clear h9 K9
  refine ab_cond_of rfl (fun hc => ?_) (fun hc => ?_)
  · have hiN : i < N := by simpa using hc
    have hbk := bit_eq (s := s) (m := i) (by omega) (by omega)
    have hsb := sumF_b (F := F) (B := 2000000000) (by omega) hF (s := s) i
    have hFi := hF i
    simp
    refine h8 _ _ _ ?_
    clear h8 K8
    refine ab_seq_k fun K10 h10 => ?_
    refine ab_block_k fun K11 h11 => ?_
    refine ab_seq_k fun K12 h12 => ?_
    simp [hbk]
    refine h12 _ _ _ ?_
    clear h12 K12
    have hend : ∀ env, get env 1 = .i .i64 s → get env 2 = .p 0 0 0 → get env 5 = .i .i64 (sumF F s (i + 1)) → get env 6 = sl (rowF N F) false → get env 7 = .i .i64 i → K11 (some 0) env [O.row 0 (bookC N D f)] := by
      intro env w1 w2 w5 w6 w7
      refine h11 _ _ _ ?_
      refine h10 _ _ _ ?_
      simp [w1, w2, w5, w6, w7, wrap64 (x := (i : Int) + 1) (by omega) (by omega)]
      exact h7 _ _ _ (again (m - 1) (by omega) ⟨i + 1, by omega, by simp, rfl⟩)
    cases hb : s.testBit i with
    | true =>
      refine ab_cond_of rfl (fun _ => ?_) (fun h => by simp [hb] at h)
      simp [hiN, rowF_get hiN]
      rw [wrap64 (by omega) (by omega)]
      refine hend _ rfl rfl ?_ rfl rfl
      simp [sumF, hb]
    | false =>
      refine ab_cond_of rfl (fun h => by simp [hb] at h) (fun _ => ?_)
      simp
      refine hend _ rfl rfl ?_ rfl rfl
      simp [sumF, hb]
  · have hiN : i = N := by simp at hc; omega
    subst hiN
    simp
    refine h6 _ _ _ ?_
    refine h4 _ _ _ ?_
    refine ab_seq_k fun K20 h20 => ?_
    simp
    refine h20 _ _ _ ?_
    clear h20 K20
    simp
    exact fin_of 1 (by simp [rs50])
theorem evens70 (hN : N ≤ 10) (hW : 2 ^ N = W) (hD : DbOK N 1000000 D) (hl : D.length ≤ 40) : FSpec Try.prog 70 [bookV N D f] [] (sl (evL (evF (balF D) N) W) false) [] := by
  refine fn70.spec0 mixed noIt_ok ?_
  rw [ic70]
  have hp := pow_small hN
  have hA := fun σ => FSpec.frame (σ := σ) (all33 (D := D) (f := f) hN hW) (by simp) rfl
  have hS := fun (s : Nat) (hs : s < 9223372036854775808) σ => FSpec.frame (σ := σ) (sum50 (f := f) (s := s) hN hD hl hs) (by simp) rfl
  rw [hW] at hp
  generalize balF D = F at *
  refine ab_seq_k fun K1 h1 => ?_
  simp
  refine h1 _ _ _ ?_
  clear h1 K1
  refine ab_seq_k fun K2 h2 => ?_
  simp
  refine h2 _ _ _ ?_
  clear h2 K2
  refine ab_seq_k fun K3 h3 => ?_
  refine ab_seq_k fun K4 h4 => ?_
  simp
  refine h4 _ _ _ ?_
  clear h4 K4
  refine ab_block_k fun K5 h5 => ?_
  refine ab_loop_k (fun m env σ => ∃ (i : Nat) (v : V), i + m = W ∧ 1 ≤ i ∧ env = [(1, .p 0 0 0), (3, v), (4, .i .i64 i)] ∧ σ[0]? = some (.row 0 (bookC N D f)) ∧ Gr 1 1 σ v i (ints (evL (evF F N) i))) (W - 1)
    ⟨1, .s 1 0 0 1 1, by omega, by omega, by simp, rfl, ⟨by simp, .inr ⟨by omega, 1, 0, by omega, rfl, by simp [evL, ints, evF]⟩⟩⟩ ?_
  rintro m env σ ⟨i, v, hi, hi1, rfl, hσ0, hv⟩ K6 h6
  obtain ⟨hs0, s0'⟩ := List.getElem?_eq_some_iff.1 hσ0
  rw [ic70_0]
  refine ab_seq_k fun K7 h7 => ?_
  refine ab_seq_k fun K8 h8 => ?_
  simp [hσ0, s0', take_bookC]
  refine callK_of (hA _) ?_
  simp
  refine h8 _ _ _ ?_
  clear h8 K8
  refine ab_cond_of rfl (fun hc => ?_) (fun hc => ?_)
  · have hiW : i < W := by simp at hc; omega
    simp
    refine h7 _ _ _ ?_
    clear h7 K7
    refine ab_seq_k fun K9 h9 => ?_
    refine ab_block_k fun K10 h10 => ?_
    refine ab_seq_k fun K11 h11 => ?_
    simp [hσ0, s0', take_bookC]
    refine callK_of (hS i (by omega) _) ?_
    simp
    refine h11 _ _ _ ?_
    clear h11 K11
    have hend : ∀ env σ v, get env 1 = .p 0 0 0 → get env 3 = v → get env 4 = .i .i64 i → σ[0]? = some (.row 0 (bookC N D f)) → Gr 1 1 σ v (i + 1) (ints (evL (evF F N) (i + 1))) → K10 (some 0) env σ := by
      intro env σ v w1 w3 w4 a1 a2
      refine h10 _ _ _ ?_
      refine h9 _ _ _ ?_
      simp [w1, w3, w4, wrap64 (x := (i : Int) + 1) (by omega) (by omega)]
      exact h6 _ _ _ (again (m - 1) (by omega) ⟨i + 1, v, by omega, by omega, by simp, a1, a2⟩)
    by_cases hz : sumF F i N = 0
    · have hev : evF F N i = true := ev_iff.2 ⟨by omega, hz⟩
      refine ab_cond_of rfl (fun _ => ?_) (fun h => by simp [hz] at h)
      simp
      refine appG hv (by omega) (by omega) (by simp) rfl ?_
      intro v2 σ2 hv2 hg2
      simp
      refine hend _ _ _ rfl rfl rfl ?_ ?_
      · rw [hg2.lt hv (by omega) (by omega)]; exact hσ0
      · rw [evL_succ, hev]; simpa [ints] using hv2
    · have hev : evF F N i = false := by
        cases h : evF F N i with
        | false => rfl
        | true => exact absurd (ev_iff.1 h).2 hz
      refine ab_cond_of rfl (fun h => by simp [hz] at h) (fun _ => ?_)
      simp
      refine appG hv (by omega) (by omega) (by simp) rfl ?_
      intro v2 σ2 hv2 hg2
      simp
      refine hend _ _ _ rfl rfl rfl ?_ ?_
      · rw [hg2.lt hv (by omega) (by omega)]; exact hσ0
      · rw [evL_succ, hev]; simpa [ints] using hv2
  · have hiW : i = W := by simp at hc; omega
    subst hiW
    simp
    refine h5 _ _ _ ?_
    refine h3 _ _ _ ?_
    refine ab_seq_k fun K20 h20 => ?_
    simp
    refine h20 _ _ _ ?_
    clear h20 K20
    simp
    refine fin_of 2 ?_
    simp [-frz, rs70]
    rw [frz_G hv (by simp)]
    have : ((i == 0) = false) := by simp; omega
    rw [this]
    simp [sl]
theorem most32 (hN : N ≤ 10) (hW : 2 ^ N = W) (hD : DbOK N 1000000 D) (hl : D.length ≤ 40) : ∃ L, IsMost (evF (balF D) N) W L ∧ (∀ x ∈ L, -1 ≤ x ∧ x < W) ∧ FSpec Try.prog 32 [bookV N D f] [] (sl L false) [] := by
  obtain ⟨L, hL, hb⟩ : ∃ L, IsMost (evF (balF D) N) W L ∧ (∀ x ∈ L, -1 ≤ x ∧ x < W) := most_ex (by have := pow_small hN; omega)
  refine ⟨L, hL, hb, ?_⟩
  refine fn32.spec0 mixed noIt_ok ?_
  rw [ic32]
  have hp := pow_small hN
  have hA := fun σ => FSpec.frame (σ := σ) (all33 (D := D) (f := f) hN hW) (by simp) rfl
  have hE := fun σ => FSpec.frame (σ := σ) (evens70 (f := f) hN hW hD hl) (by simp) (by simp)
  rw [hW] at hp
  generalize balF D = F at *
  refine ab_seq_k fun K1 h1 => ?_
  simp
  refine h1 _ _ _ ?_
  clear h1 K1
  refine ab_seq_k fun K2 h2 => ?_
  simp [take_bookC]
  refine callK_of (hE _) ?_
  simp [take_bookC]
  refine h2 _ _ _ ?_
  clear h2 K2
  refine ab_seq_k fun K3 h3 => ?_
  simp
  refine h3 _ _ _ ?_
  clear h3 K3
  refine ab_seq_k fun K4 h4 => ?_
  refine ab_seq_k fun K5 h5 => ?_
  simp
  refine h5 _ _ _ ?_
  clear h5 K5
  refine ab_block_k fun K6 h6 => ?_
  refine ab_loop_k (fun m env σ => ∃ (i : Nat) (v : V) (L : List Int), i + m = W ∧ 1 ≤ i ∧ env = [(1, .p 0 0 0), (3, sl (evL (evF F N) W) false), (4, v), (5, .i .i64 i)] ∧ σ[0]? = some (.row 0 (bookC N D f)) ∧ L.length = i ∧ MostTo (evF F N) L ∧ Gr 1 1 σ v i (ints L)) (W - 1)
    ⟨1, .s 1 0 0 1 1, [0], by omega, by omega, by simp, rfl, rfl, MostTo.nil, ⟨by simp, .inr ⟨by omega, 1, 0, by omega, rfl, by simp [ints]⟩⟩⟩ ?_
  rintro m env σ ⟨i, v, L2, hi, hi1, rfl, hσ0, hlen, hM, hv⟩ K7 h7
  obtain ⟨hs0, s0'⟩ := List.getElem?_eq_some_iff.1 hσ0
  rw [ic32_1]
  refine ab_seq_k fun K8 h8 => ?_
  refine ab_seq_k fun K9 h9 => ?_
  simp [hσ0, s0', take_bookC]
  refine callK_of (hA _) ?_
  simp
  refine h9 _ _ _ ?_
  clear h9 K9
  refine ab_cond_of rfl (fun hc => ?_) (fun hc => ?_)
  · have hiW : i < W := by simp at hc; omega
    simp
    refine h8 _ _ _ ?_
    clear h8 K8
    refine ab_seq_k fun K10 h10 => ?_
    refine ab_block_k fun K11 h11 => ?_
    have eln := low_neg' (s := i) (by omega) (by omega)
    have hlow10 : low i < 10 := by
      have := low_lt hN (by omega : i < 2 ^ N) (by omega); omega
    refine ab_seq_k fun K12 h12 => ?_
    simp [wrap64 (x := -(i : Int)) (by omega) (by omega)]
    rw [eln]
    have hfe : ∀ p : Nat, (p &&& 2 ^ low i = 0) ↔ p.testBit (low i) = false := fun p => and_two
    have hf1 : 2 ^ low i ≤ 1024 := (pow_small (by omega)).2
    generalize 2 ^ low i = fst at *
    refine h12 _ _ _ ?_
    clear h12 K12
    refine ab_seq_k fun K13 h13 => ?_
    simp
    refine h13 _ _ _ ?_
    clear h13 K13
    refine ab_seq_k fun K14 h14 => ?_
    refine ab_seq_k fun K15 h15 => ?_
    simp
    refine h15 _ _ _ ?_
    clear h15 K15
    refine ab_block_k fun K16 h16 => ?_
    have hfl : fst < 9223372036854775808 := by omega
    refine ab_loop_k (fun m env σ2 => ∃ (p : Nat) (b : Int), p = m ∧ Sub p i ∧ Found (evF F N) L2 i p b ∧ env = [(1, .p 0 0 0), (3, sl (evL (evF F N) W) false), (4, v), (5, .i .i64 i), (6, .i .i64 fst), (7, .i .i64 b), (8, .i .i64 p)] ∧ σ2 = σ) i
      ⟨i, -1, rfl, Nat.and_self _, Found.start, by simp, rfl⟩ ?_
    rintro m2 env σ2 ⟨p, b, rfl, hpi, hfd, rfl, rfl⟩ K17 h17
    have hbb := hfd.b hM (by omega)
    have hple := hpi.le
    rw [ic32_0]
    refine ab_seq_k fun K18 h18 => ?_
    refine ab_seq_k fun K19 h19 => ?_
    simp
    refine h19 _ _ _ ?_
    clear h19 K19
    refine ab_cond_of rfl (fun hc2 => ?_) (fun hc2 => ?_)
    · have hp0 : 0 < p := by simpa using hc2
      simp
      refine h18 _ _ _ ?_
      clear h18 K18
      have ea := and_nat (a := p) (b := fst) (by omega) hfl
      have ea2 := and_nat (a := p - 1) (b := i) (by omega) (by omega)
      rw [show ((p - 1 : Nat) : Int) = (p : Int) - 1 by omega] at ea2
      obtain ⟨id, ver, -, hid, rfl, hrow, hidl⟩ := (hv.cases).resolve_left (by omega)
      obtain ⟨hrow0, hrow'⟩ := List.getElem?_eq_some_iff.1 hrow
      have hpW : p < W := by omega
      have hg := o_some (o := L2) (j := i - p) (by omega)
      have hgl : L2.getD (i - p) 0 = gL L2 (i - p) := rfl
      rw [hgl] at hg
      have hgb := (hM.b _ (List.mem_of_getElem? hg))
      refine ab_seq_k fun K20 h20 => ?_
      have hend : ∀ env b', get env 1 = .p 0 0 0 → get env 3 = sl (evL (evF F N) W) false → get env 4 = .s id ver 0 i 1 → get env 5 = .i .i64 i → get env 6 = .i .i64 fst → get env 7 = .i .i64 b' → get env 8 = .i .i64 p → Found (evF F N) L2 i ((p - 1) &&& i) b' → K20 (some 0) env σ2 := by
        intro env b' w1 w3 w4 w5 w6 w7 w8 hf
        refine h20 _ _ _ ?_
        have := next_lt (p := p) (s := i) hp0
        simp [w1, w3, w4, w5, w6, w7, w8, wrap64 (x := (p : Int) - 1) (by omega) (by omega), ea2]
        exact h17 _ _ _ (again ((p - 1) &&& i) this ⟨_, b', rfl, next_sub, hf, by simp, rfl⟩)
      refine ab_block_k fun K21 h21 => ?_
      refine ab_seq_k fun K22 h22 => ?_
      have hK : ∀ env c, get env 1 = .p 0 0 0 → get env 3 = sl (evL (evF F N) W) false → get env 4 = .s id ver 0 i 1 → get env 5 = .i .i64 i → get env 6 = .i .i64 fst → get env 7 = .i .i64 b → get env 8 = .i .i64 p → get env 48 = .b c → (c = true ↔ ValidM (evF F N) L2 i p) → K22 (some 0) env σ2 := by
        intro env c w1 w3 w4 w5 w6 w7 w8 w48 hcv
        refine h22 _ _ _ ?_
        refine ab_cond_of w48 (fun hb => ?_) (fun hb => ?_)
        · simp [w1, w3, w4, w5, w6, w7, w8, wrap64 (x := (i : Int) - p) (by omega) (by omega), hrow, hrow', hg, wrap64 (x := 1 + gL L2 (i - p)) (by omega) (by omega)]
          refine ⟨by omega, by omega, ?_⟩
          refine h21 _ _ _ ?_
          exact hend _ _ rfl rfl rfl rfl rfl rfl rfl (hfd.take hpi (hcv.1 hb))
        · simp [w1, w3, w4, w5, w6, w7, w8]
          refine h21 _ _ _ ?_
          exact hend _ b (by simp [w1]) (by simp [w3]) (by simp [w4]) (by simp [w5]) (by simp [w6]) (by simp [w7]) (by simp [w8]) (hfd.skip hpi (fun hv => by rw [hcv.2 hv] at hb; cases hb))
      have hfp := hfe p
      cases hb1 : p.testBit (low i) with
      | false =>
        simp [ea, hfp.2 hb1]
        exact hK _ _ rfl rfl rfl rfl rfl rfl rfl rfl ⟨fun h => (by cases h), fun h => by have := h.first; rw [hb1] at this; cases this⟩
      | true =>
        have hz : ¬ (p &&& fst) = 0 := fun h => by rw [hfp.1 h] at hb1; cases hb1
        cases hb2 : evF F N p with
        | false =>
          simp [ea, hz, hpW, evL_at, evL_get hpW, hb2]
          exact hK _ _ rfl rfl rfl rfl rfl rfl rfl rfl ⟨fun h => (by cases h), fun h => by have := h.even; rw [hb2] at this; cases this⟩
        | true =>
          simp [ea, hz, hpW, evL_at, evL_get hpW, hb2, wrap64 (x := (i : Int) - p) (by omega) (by omega), hrow, hrow', hg]
          refine ⟨by omega, by omega, ?_⟩
          exact hK _ _ rfl rfl rfl rfl rfl rfl rfl rfl ⟨fun h => ⟨by omega, hpi, hb1, hb2, of_decide_eq_true h⟩, fun h => decide_eq_true h.rest⟩
    · have hp0 : p = 0 := by simp at hc2; omega
      subst hp0
      simp
      refine h16 _ _ _ ?_
      refine h14 _ _ _ ?_
      simp
      refine appG hv (by omega) (by omega) (by simp) rfl ?_
      intro v2 σ3 hv2 hg2
      simp
      refine h11 _ _ _ ?_
      refine h10 _ _ _ ?_
      simp [wrap64 (x := (i : Int) + 1) (by omega) (by omega)]
      refine h7 _ _ _ (again (m - 1) (by omega) ⟨i + 1, v2, L2 ++ [b], by omega, by omega, by simp, ?_, by simp [hlen], ?_, by simpa [ints] using hv2⟩)
      · rw [hg2.lt hv (by omega) (by omega)]; exact hσ0
      · rw [← hlen] at hfd
        exact hM.push (by omega) hfd.done hbb
  · have hiW : i = W := by simp at hc; omega
    subst hiW
    simp
    refine h6 _ _ _ ?_
    refine h4 _ _ _ ?_
    refine ab_seq_k fun K20 h20 => ?_
    simp
    refine h20 _ _ _ ?_
    clear h20 K20
    simp
    refine fin_of 2 ?_
    simp [-frz, rs32]
    have e2 : L2 = L := (hM.done (by omega)).uniq hL
    rw [frz_G hv (by simp)]
    have : ((i == 0) = false) := by simp; omega
    rw [this, e2]
    simp [sl, hL.len]
end
end Go.Ab
