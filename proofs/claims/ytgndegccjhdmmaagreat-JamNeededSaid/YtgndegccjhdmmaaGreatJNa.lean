/- How many keys a log needs: plain, the program's Need, the reference's. -/
import Derived.Test.YtgndegccjhdmmaaGreatJZ
import Derived.Test.YtgndegccjhdmmaaGreatJY
set_option linter.unusedVariables false
set_option linter.unusedSimpArgs false
set_option maxHeartbeats 4000000
set_option maxRecDepth 100000
namespace Go.Ab
open Go Go.Proofs

/-- Keys by which a log goes that is none of them. -/
def qN (J : List Lg) (log : Nat) (s : Nat) : Bool := !s.testBit log && !(left J s).testBit log
def needF (q : Nat → Bool) (N : Nat) : Nat → Nat
  | 0 => N
  | i + 1 => if q i && decide (pc i < needF q N i) then pc i else needF q N i
theorem needF_le {q : Nat → Bool} {N : Nat} : ∀ {i : Nat}, needF q N i ≤ N
  | 0 => Nat.le_refl _
  | i + 1 => by
    have ih := needF_le (q := q) (N := N) (i := i)
    rw [needF]
    split
    · rename_i h
      simp at h
      omega
    · exact ih
/-- What keys need at least. -/
theorem needF_spec {q : Nat → Bool} {N : Nat} : ∀ {i : Nat}, (∀ s, s < i → q s = true → pc s < N → needF q N i ≤ pc s) ∧ (needF q N i = N ∨ ∃ s, s < i ∧ q s = true ∧ pc s = needF q N i ∧ pc s < N)
  | 0 => ⟨fun s hs => by omega, .inl rfl⟩
  | i + 1 => by
    obtain ⟨h1, h2⟩ := needF_spec (q := q) (N := N) (i := i)
    have hle := needF_le (q := q) (N := N) (i := i)
    rw [needF]
    by_cases hc : (q i && decide (pc i < needF q N i)) = true
    · rw [if_pos hc]
      simp at hc
      refine ⟨fun s hs hq hp => ?_, .inr ⟨i, by omega, hc.1, rfl, by omega⟩⟩
      by_cases hsi : s = i
      · subst hsi; exact Nat.le_refl _
      · have := h1 s (by omega) hq hp; omega
    · rw [if_neg hc]
      refine ⟨fun s hs hq hp => ?_, ?_⟩
      · by_cases hsi : s = i
        · subst hsi
          simp [hq] at hc
          exact hc
        · exact h1 s (by omega) hq hp
      · rcases h2 with h2 | ⟨s, a, b, c, d⟩
        · exact .inl h2
        · exact .inr ⟨s, by omega, b, c, d⟩
theorem bl_full {s N : Nat} : ∀ {k : Nat}, N < k → s.testBit N = false → (bl s k).length < k
  | 0, h, _ => by omega
  | k + 1, h, hb => by
    rw [bl]
    by_cases hk : N = k
    · subst hk
      rw [hb]
      have := bl_len (s := s) (k := N)
      simp
      omega
    · have ih := bl_full (s := s) (k := k) (by omega) hb
      split
      · rw [List.length_append]; simp; omega
      · omega
theorem pc_N {s N : Nat} (h : s < 2 ^ N) (hN : N ≤ 16) : pc s = (bl s N).length := by
  unfold pc
  have := bl_sh (j := 16 - N) h
  rw [← this]
  congr 2
  omega
theorem pc_lt {s N log : Nat} (h : s < 2 ^ N) (hN : N ≤ 16) (hl : log < N) (hb : s.testBit log = false) : pc s < N := by
  rw [pc_N h hN]
  exact bl_full hl hb
def needV (J : List Lg) (log : Int) : Int × Int := if checkJ J ≠ 0 then (0, checkJ J) else if fit 0 (J.length - 1) log = false then (0, 2) else if needF (qN J log.toNat) J.length (2 ^ J.length) = J.length then (0, 5) else ((needF (qN J log.toNat) J.length (2 ^ J.length) : Nat), 0)

theorem need45 {J : List Lg} {f : Bool} {log : Int} {σ : List O} (hJ : J.length ≤ 1000000) (hl : ∀ x ∈ J, x.2.1.length ≤ 1000000) : FSpec Tryz.prog 45 [jamV J f, .i .i64 log] σ (.tup [.i .i64 (needV J log).1, .i .i64 (needV J log).2]) σ := by
  refine FSpec.frame (σ := σ) ?_ (by simp) rfl
  have h62 := fun σ => open62 (f := f) (l := []) (fl := true) (σ := σ) hJ hl (by simp)
  refine fn45.spec0 mixed itT_ok ?_
  rw [ic45]
  refine ab_seq_k fun K1 h1 => ?_
  simp
  refine h1 _ _ _ ?_
  clear h1 K1
  refine ab_seq_k fun K2 h2 => ?_
  simp
  refine callK_of (h62 _) ?_
  have hcase : checkJ J ≠ 0 ∨ checkJ J = 0 ∧ JOK J := by
    by_cases hc : checkJ J = 0
    · exact .inr ⟨hc, check_ok hl hc⟩
    · exact .inl hc
  rcases hcase with hc | ⟨hc, hJO⟩
  · have ho : openV J f [] = .tup [.np, .i .i64 (checkJ J)] := by unfold openV; rw [if_pos hc]
    have hv : needV J log = (0, checkJ J) := by unfold needV; rw [if_pos hc]
    rw [ho]
    simp
    refine h2 _ _ _ ?_
    clear h2 K2
    refine ab_seq_k fun K3 h3 => ?_
    refine ab_block_k fun K4 h4 => ?_
    refine ab_seq_k fun K5 h5 => ?_
    simp
    refine h5 _ _ _ ?_
    clear h5 K5
    refine ab_cond_of rfl (fun _ => ?_) (fun h => by simp at h; omega)
    refine ab_seq_k fun K6 h6 => ?_
    simp
    refine h6 _ _ _ ?_
    clear h6 K6
    simp
    refine fin_of 3 ?_
    simp [rs45, hv]
  · have ho : openV J f [] = .tup [heapV J f, .i .i64 0] := by unfold openV; rw [if_neg (by simp [hc]), if_neg (by simp [isL, isLF])]
    have hv : needV J log = if fit 0 (J.length - 1) log = false then ((0 : Int), (2 : Int)) else if needF (qN J log.toNat) J.length (2 ^ J.length) = J.length then ((0 : Int), (5 : Int)) else ((needF (qN J log.toNat) J.length (2 ^ J.length) : Nat), 0) := by unfold needV; rw [if_neg (by simp [hc])]
    have hN := hJO.2.1
    have hN1 := hJO.1
    have hh : (cellsOf (heapV J f)) = some [heapV J f] := rfl
    have hst := fun σ s hs => stays67 (J := J) (f := f) (s := s) (σ := σ) hN hs
    have hat : ∀ σ, HeapAt J f (heapV J f) σ := fun σ => .inl ⟨_, _, rfl⟩
    have hpu : (heapV J f).pure = true := by simp
    rw [ho]
    generalize heapV J f = H at *
    simp [hh]
    refine h2 _ _ _ ?_
    clear h2 K2
    refine ab_seq_k fun K3 h3 => ?_
    refine ab_block_k fun K4 h4 => ?_
    refine ab_seq_k fun K5 h5 => ?_
    simp
    refine h5 _ _ _ ?_
    clear h5 K5
    refine ab_cond_of rfl (fun h => by simp at h) (fun _ => ?_)
    refine ab_seq_k fun K6 h6 => ?_
    simp [wrap64 (x := (J.length : Int) - 1) (by omega) (by omega)]
    refine callK_of within0 ?_
    simp
    refine h6 _ _ _ ?_
    clear h6 K6
    cases hf : fit 0 (J.length - 1) log with
    | false =>
      rw [hf, if_pos rfl] at hv
      refine ab_cond_of rfl (fun _ => ?_) (fun h => by cases h)
      refine ab_seq_k fun K7 h7 => ?_
      simp
      refine h7 _ _ _ ?_
      clear h7 K7
      simp
      refine fin_of 3 ?_
      simp [rs45, hv]
    | true =>
      rw [hf, if_neg (by simp)] at hv
      refine ab_cond_of rfl (fun h => by cases h) (fun _ => ?_)
      simp
      refine h4 _ _ _ (h3 _ _ _ ?_)
      clear h3 h4
      simp only [fit, Bool.and_eq_true, decide_eq_true_eq] at hf
      obtain ⟨ln, rfl⟩ : ∃ ln : Nat, log = ln := ⟨log.toNat, by omega⟩
      rw [Int.toNat_natCast] at hv
      have hln : ln < J.length := by omega
      refine ab_seq_k fun K8 h8 => ?_
      simp
      refine h8 _ _ _ ?_
      clear h8 K8
      refine ab_seq_k fun K9 h9 => ?_
      refine ab_seq_k fun K10 h10 => ?_
      simp
      refine callK_of (sets91 hh) ?_
      simp
      refine h10 _ _ _ ?_
      clear h10 K10
      refine ab_block_k fun K11 h11 => ?_
      have hpw := pow12 hN
      generalize hW : 2 ^ J.length = W at *
      refine ⟨W, XSet, SetAt J f 4 H, sets_it hN hW, fun i σ2 => σ2[0]? = some (.row 0 [slJ J f]) ∧ σ2[1]? = some (.row 0 [.i .i64 ln]) ∧ σ2[2]? = some (.row 0 [H]) ∧ σ2[3]? = some (.row 0 [.i .i64 (needF (qN J ln) J.length i)]) ∧ σ2[4]? = some (.row 0 [H]), fun i σ2 h => ⟨h.2.2.2.2, hat _⟩, ⟨rfl, rfl, rfl, rfl, rfl⟩, ?_, ?_⟩
      · rintro i x σ2 g hi ⟨rfl, rfl⟩ ⟨q0, q1, q2, q3, q4⟩
        refine ⟨rfl, ?_⟩
        generalize hKR : roundK _ _ _ = KR
        rw [List.append_nil]
        simp
        rw [ic45_0]
        have hi16 : i < 65536 := by omega
        obtain ⟨hq1, q1'⟩ := List.getElem?_eq_some_iff.1 q1
        obtain ⟨hq2, q2'⟩ := List.getElem?_eq_some_iff.1 q2
        obtain ⟨hq3, q3'⟩ := List.getElem?_eq_some_iff.1 q3
        have hlt := left_lt (J := J) (s := i) hN
        have hnl := needF_le (q := qN J ln) (N := J.length) (i := i)
        have hnx : needF (qN J ln) J.length (i + 1) = if qN J ln i && decide (pc i < needF (qN J ln) J.length i) then pc i else needF (qN J ln) J.length i := rfl
        have hpl : pc i < J.length + 100 := by have := bl_len (s := i) (k := 16); unfold pc; omega
        generalize needF (qN J ln) J.length i = b at *
        refine ab_block_k fun K16 h16 => ?_
        refine ab_seq_k fun K17 h17 => ?_
        have hK17 : ∀ env c, get env 8 = .p 3 0 0 → get env 9 = .i .u16 i → get env 51 = .b c → c = (qN J ln i && decide (pc i < b)) → K17 (some 0) env σ2 := by
          intro env c w8 w9 w51 hcv
          refine h17 _ _ _ ?_
          clear h17 K17
          cases c with
          | true =>
            rw [← hcv, if_pos rfl] at hnx
            refine ab_cond_of w51 (fun _ => ?_) (fun h => by cases h)
            simp [w8, w9]
            refine callK_of (many92 hi16) ?_
            simp [q3, q3', w8]
            refine h16 _ _ _ ?_
            rw [← hKR]
            exact ⟨rfl, .inl ⟨by rw [List.getElem?_set_ne (by omega)]; exact q0, by rw [List.getElem?_set_ne (by omega)]; exact q1, by rw [List.getElem?_set_ne (by omega)]; exact q2, by rw [List.getElem?_set_self hq3, hnx], by rw [List.getElem?_set_ne (by omega)]; exact q4⟩⟩
          | false =>
            rw [← hcv, if_neg (by simp)] at hnx
            refine ab_cond_of w51 (fun h => by cases h) (fun _ => ?_)
            simp
            refine h16 _ _ _ ?_
            rw [← hKR]
            exact ⟨rfl, .inl ⟨q0, q1, q2, by rw [q3, hnx], q4⟩⟩
        clear h17 h16
        simp [abDs_consU, drU, recheck_cons, recheck_nil, rcK, IS.dst, q1, q1', q2, q2', q3, q3']
        refine callK_of (has83 hi16 (by omega)) ?_
        cases hb : i.testBit ln with
        | true =>
          simp [abDs_consU, drU, recheck_cons, recheck_nil, rcK, IS.dst, q1, q1', q2, q2', q3, q3']
          exact hK17 _ _ rfl rfl rfl (by simp [qN, hb])
        | false =>
          simp [abDs_consU, drU, recheck_cons, recheck_nil, rcK, IS.dst, q1, q1', q2, q2', q3, q3']
          refine callK_of (many92 hi16) ?_
          by_cases hpb : pc i < b
          · simp [abDs_consU, drU, recheck_cons, recheck_nil, rcK, IS.dst, q1, q1', q2, q2', q3, q3', hpb]
            refine callK_of (hst _ _ (by omega)) ?_
            simp [abDs_consU, drU, recheck_cons, recheck_nil, rcK, IS.dst, q1, q1', q2, q2', q3, q3', hpb]
            refine callK_of (has83 hlt (by omega)) ?_
            simp [abDs_consU, drU, recheck_cons, recheck_nil, rcK, IS.dst, q1, q1', q2, q2', q3, q3', hpb]
            exact hK17 _ _ rfl rfl rfl (by simp [qN, hb, hpb])
          · simp [abDs_consU, drU, recheck_cons, recheck_nil, rcK, IS.dst, q1, q1', q2, q2', q3, q3', hpb]
            exact hK17 _ _ rfl rfl rfl (by simp [qN, hb, hpb])
      · rintro σ2 ⟨q0, q1, q2, q3, q4⟩
        refine h11 _ _ _ (h9 _ _ _ ?_)
        clear h9 h11
        obtain ⟨hq0, q0'⟩ := List.getElem?_eq_some_iff.1 q0
        obtain ⟨hq3, q3'⟩ := List.getElem?_eq_some_iff.1 q3
        have hnl := needF_le (q := qN J ln) (N := J.length) (i := W)
        generalize needF (qN J ln) J.length W = b at *
        refine ab_seq_k fun K20 h20 => ?_
        refine ab_seq_k fun K21 h21 => ?_
        simp [q0, q0', q3, q3']
        refine h21 _ _ _ ?_
        clear h21 K21
        by_cases hb : b = J.length
        · rw [if_pos hb] at hv
          refine ab_cond_of rfl (fun _ => ?_) (fun h => by simp [hb] at h)
          refine ab_seq_k fun K22 h22 => ?_
          simp
          refine h22 _ _ _ ?_
          clear h22 K22
          simp
          refine fin_of 3 ?_
          simp [rs45, hv]
        · rw [if_neg hb] at hv
          refine ab_cond_of rfl (fun h => by simp at h; omega) (fun _ => ?_)
          simp
          refine h20 _ _ _ ?_
          refine ab_seq_k fun K23 h23 => ?_
          simp [q3, q3']
          refine h23 _ _ _ ?_
          clear h23 K23
          simp
          refine fin_of 3 ?_
          simp [rs45, hv]

theorem left_qN {J : List Lg} {s ln : Nat} (hl : ln < J.length) : qN J ln s = decide (¬ s.testBit ln = true ∧ 0 < wr J (byB J) s J.length ln) := by
  unfold qN
  rw [left_bit hl]
  cases hb : s.testBit ln with
  | true => simp
  | false =>
    have := wave_no (B := byB J) hl hb
    by_cases h : wr J (byB J) s J.length ln < 0
    · have h2 : ¬ 0 < wr J (byB J) s J.length ln := by omega
      simp [h, h2]
    · have h2 : 0 < wr J (byB J) s J.length ln := by omega
      simp [h, h2]
theorem ref_need46 {J : List Lg} {f : Bool} {log : Int} {σ : List O} (hJ : J.length ≤ 1000000) (hl : ∀ x ∈ J, x.2.1.length ≤ 1000000) : FSpec Tryz.prog 46 [jamV J f, .i .i64 log] σ (.tup [.i .i64 (needV J log).1, .i .i64 (needV J log).2]) σ := by
  refine FSpec.frame (σ := σ) ?_ (by simp) rfl
  have h24 := fun σ => refCheck24 (f := f) (σ := σ) hJ (fun x hx => by have := hl x hx; omega)
  refine fn46.spec0 mixed noIt_ok ?_
  rw [ic46]
  refine ab_seq_k fun K1 h1 => ?_
  simp
  refine h1 _ _ _ ?_
  clear h1 K1
  refine ab_seq_k fun K2 h2 => ?_
  refine ab_seq_k fun K3 h3 => ?_
  simp
  refine callK_of (h24 _) ?_
  simp
  refine h3 _ _ _ ?_
  clear h3 K3
  by_cases hc : checkJ J = 0
  · have hJO := check_ok hl hc
    have hv : needV J log = if fit 0 (J.length - 1) log = false then ((0 : Int), (2 : Int)) else if needF (qN J log.toNat) J.length (2 ^ J.length) = J.length then ((0 : Int), (5 : Int)) else (((needF (qN J log.toNat) J.length (2 ^ J.length) : Nat) : Int), 0) := by unfold needV; rw [if_neg (by simp [hc])]
    have hN := hJO.2.1
    have hN1 := hJO.1
    refine ab_cond_of rfl (fun h => by simp [hc] at h) (fun _ => ?_)
    simp
    refine h2 _ _ _ ?_
    clear h2 K2
    refine ab_seq_k fun K5 h5 => ?_
    refine ab_seq_k fun K6 h6 => ?_
    have hK6 : ∀ env, get env 1 = .i .i64 log → get env 2 = .p 0 0 0 → get env 22 = .b (!fit 0 (J.length - 1) log) → K6 (some 0) env [.row 0 [slJ J f]] := by
      intro env w1 w2 w22
      refine h6 _ _ _ ?_
      clear h6 K6
      cases hf : fit 0 (J.length - 1) log with
      | false =>
        rw [hf, if_pos rfl] at hv
        rw [hf] at w22
        refine ab_cond_of w22 (fun _ => ?_) (fun h => by cases h)
        refine ab_seq_k fun K7 h7 => ?_
        simp
        refine h7 _ _ _ ?_
        clear h7 K7
        simp
        refine fin_of 3 ?_
        simp [rs46, hv]
      | true =>
        rw [hf, if_neg (by simp)] at hv
        rw [hf] at w22
        refine ab_cond_of w22 (fun h => by cases h) (fun _ => ?_)
        simp only [fit, Bool.and_eq_true, decide_eq_true_eq] at hf
        obtain ⟨ln, rfl⟩ : ∃ ln : Nat, log = ln := ⟨log.toNat, by omega⟩
        rw [Int.toNat_natCast] at hv
        have hln : ln < J.length := by omega
        simp [w1, w2]
        refine h5 _ _ _ ?_
        clear h5 K5
        refine ab_seq_k fun K8 h8 => ?_
        simp [w1, w2]
        refine h8 _ _ _ ?_
        clear h8 K8
        refine ab_seq_k fun K9 h9 => ?_
        refine ab_seq_k fun K10 h10 => ?_
        simp [w1, w2]
        refine h10 _ _ _ ?_
        clear h10 K10
        refine ab_block_k fun K11 h11 => ?_
        have hpw := pow12 hN
        refine ab_loop_k (fun m env σ => ∃ (i : Nat) (b : Int), i + m = 2 ^ J.length ∧ b = (if needF (qN J ln) J.length i = J.length then -1 else (needF (qN J ln) J.length i : Int)) ∧ env = [(1, .i .i64 ln), (2, .p 0 0 0), (6, .i .i64 b), (7, .i .i64 i)] ∧ σ = [.row 0 [slJ J f]]) (2 ^ J.length) ⟨0, -1, by omega, by simp [needF], by simp, rfl⟩ ?_
        clear w1 w2 w22 env
        rintro m env σ ⟨i, b, hi, hb, rfl, rfl⟩ K12 h12
        have hsh : IntKind.i64.wrap (1 * 2 ^ (min J.length 64)) = ((2 ^ J.length : Nat) : Int) := by
          rw [Nat.min_eq_left (by omega), Int.one_mul]
          have : ((2 : Int) ^ J.length) = ((2 ^ J.length : Nat) : Int) := by simp
          rw [this]
          exact wrap64 (by omega) (by omega)
        have hsh' : IntKind.i64.wrap (2 ^ (min J.length 64)) = ((2 ^ J.length : Nat) : Int) := by rw [← hsh, Int.one_mul]
        have hsN : i < 2 ^ J.length → i < 2 ^ J.length := id
        generalize hW : 2 ^ J.length = W at *
        rw [ic46_0]
        refine ab_seq_k fun K13 h13 => ?_
        refine ab_seq_k fun K14 h14 => ?_
        simp [hsh']
        refine h14 _ _ _ ?_
        clear h14 K14
        refine ab_cond_of rfl (fun hc1 => ?_) (fun hc1 => ?_)
        · have hil : i < W := by simpa using hc1
          have hi16 : i < 65536 := by omega
          have hiN : i < 2 ^ J.length := by rw [hW]; exact hil
          have hi2 : i < 2 ^ 16 := by omega
          have hq := left_qN (s := i) hln
          have hnl := needF_le (q := qN J ln) (N := J.length) (i := i)
          have hnx : needF (qN J ln) J.length (i + 1) = if qN J ln i && decide (pc i < needF (qN J ln) J.length i) then pc i else needF (qN J ln) J.length i := rfl
          have hpl : qN J ln i = true → pc i < J.length := fun h => pc_lt hiN (by omega) hln (by
            unfold qN at h
            simp at h
            exact h.1)
          generalize qN J ln i = q at *
          generalize needF (qN J ln) J.length i = nb at *
          simp
          refine h13 _ _ _ ?_
          clear h13 K13
          refine ab_seq_k fun K15 h15 => ?_
          refine ab_block_k fun K16 h16 => ?_
          refine ab_seq_k fun K17 h17 => ?_
          simp
          refine callK_of (bits86 hi16) ?_
          simp
          refine h17 _ _ _ ?_
          clear h17 K17
          refine ab_seq_k fun K18 h18 => ?_
          have hpcl : (bl i 16).length = pc i := rfl
          have hbl := bl_len (s := i) (k := 16)
          have hK18 : ∀ env c, get env 1 = .i .i64 ln → get env 2 = .p 0 0 0 → get env 6 = .i .i64 b → get env 7 = .i .i64 i → get env 8 = sl (bl i 16) ((bl i 16).length == 0) → get env 55 = .b c → c = (q && decide (b < 0 ∨ (pc i : Int) < b)) → K18 (some 0) env [.row 0 [slJ J f]] := by
            intro env c w1 w2 w6 w7 w8 w55 hcv
            refine h18 _ _ _ ?_
            clear h18 K18
            have hend : ∀ env b', get env 1 = .i .i64 ln → get env 2 = .p 0 0 0 → get env 6 = .i .i64 b' → get env 7 = .i .i64 i → b' = (if needF (qN J ln) J.length (i + 1) = J.length then -1 else (needF (qN J ln) J.length (i + 1) : Int)) → K16 (some 0) env [.row 0 [slJ J f]] := by
              intro env b' w1 w2 w6 w7 hb'
              refine h16 _ _ _ (h15 _ _ _ ?_)
              simp [w1, w2, w6, w7, wrap64 (x := (i : Int) + 1) (by omega) (by omega)]
              exact h12 _ _ _ (again (m - 1) (by omega) ⟨i + 1, b', by omega, hb', by simp, rfl⟩)
            cases c with
            | true =>
              refine ab_cond_of w55 (fun _ => ?_) (fun h => by cases h)
              simp [w1, w2, w6, w7, w8, hpcl]
              refine hend _ _ rfl rfl rfl rfl ?_
              cases q with
              | false => simp at hcv
              | true =>
                have hp1 := hpl rfl
                simp at hcv
                have : pc i < nb := by
                  split at hb
                  · omega
                  · omega
                have e : needF (qN J ln) J.length (i + 1) = pc i := by rw [hnx]; simp [this]
                rw [e, if_neg (by omega)]
            | false =>
              refine ab_cond_of w55 (fun h => by cases h) (fun _ => ?_)
              simp [w1, w2, w6, w7]
              refine hend _ _ w1 w2 w6 w7 ?_
              rw [hb, hnx]
              cases q with
              | false => simp
              | true =>
                simp at hcv
                have : ¬ pc i < nb := by
                  split at hb
                  · omega
                  · omega
                simp [this]
          clear h18 h16 h15 h12
          simp
          refine callK_of (has53 (by omega)) ?_
          have hhas : decide ((ln : Int) ∈ bl i 16) = i.testBit ln := by
            rw [Bool.eq_iff_iff, decide_eq_true_eq, bl_mem]
            constructor
            · rintro ⟨j, h1, h2, h3⟩
              have : j = ln := by omega
              rw [← this]; exact h3
            · intro h; exact ⟨ln, by omega, rfl, h⟩
          rw [hhas]
          cases hbt : i.testBit ln with
          | true =>
            simp
            refine hK18 _ _ rfl rfl rfl rfl rfl rfl ?_
            rw [hq, hbt]
            simp
          | false =>
            rw [hbt] at hq
            simp only [Bool.false_eq_true, not_false_eq_true, true_and] at hq
            have hwl : (wavL J i).length = J.length := rowF_len
            have hwat : (wavL J i)[ln]? = some (wr J (byB J) i J.length ln) := rowF_get hln
            obtain ⟨hwat1, hwat'⟩ := List.getElem?_eq_some_iff.1 hwat
            simp
            refine callK_of (wavesOf66 hJO (check_parts hc) (fun x hx => ?_) (by omega)) ?_
            · obtain ⟨j, -, rfl, -⟩ := bl_mem.1 hx
              omega
            rw [setB_bl hi2]
            generalize wr J (byB J) i J.length ln = y at *
            by_cases hy : 0 < y
            · rw [decide_eq_true hy] at hq
              by_cases hbn : b < 0
              · simp [hwl, hln, hwat, hwat', hy, hbn]
                exact hK18 _ true rfl rfl rfl rfl rfl rfl (by simp [hq, hbn])
              · simp [hwl, hln, hwat, hwat', hy, hbn, hpcl]
                refine hK18 _ _ rfl rfl rfl rfl rfl rfl ?_
                simp [hq, hbn]
            · rw [decide_eq_false hy] at hq
              simp [hwl, hln, hwat, hwat', hy]
              exact hK18 _ false rfl rfl rfl rfl rfl rfl (by simp [hq])
        · have hil : i = W := by simp at hc1; omega
          subst hil
          simp
          refine h11 _ _ _ (h9 _ _ _ ?_)
          clear h9 h11 h12 h13
          refine ab_seq_k fun K20 h20 => ?_
          refine ab_seq_k fun K21 h21 => ?_
          simp
          refine h21 _ _ _ ?_
          clear h21 K21
          by_cases hn : needF (qN J ln) J.length i = J.length
          · rw [if_pos hn] at hv hb
            refine ab_cond_of rfl (fun _ => ?_) (fun h => by simp [hb] at h)
            refine ab_seq_k fun K22 h22 => ?_
            simp
            refine h22 _ _ _ ?_
            clear h22 K22
            simp
            refine fin_of 3 ?_
            simp [rs46, hv]
          · rw [if_neg hn] at hv hb
            refine ab_cond_of rfl (fun h => by simp at h; omega) (fun _ => ?_)
            simp
            refine h20 _ _ _ ?_
            refine ab_seq_k fun K23 h23 => ?_
            simp
            refine h23 _ _ _ ?_
            clear h23 K23
            simp
            refine fin_of 3 ?_
            simp [rs46, hv, hb]
    clear h6
    have h64 : (J.length : Int) < 1000000000 := by omega
    by_cases c1 : log < 0
    · have hf : fit 0 (J.length - 1) log = false := by simp [fit]; omega
      rw [hf] at hK6
      simp [c1]
      exact hK6 _ rfl rfl rfl
    · by_cases c2 : (J.length : Int) ≤ log
      · have hf : fit 0 (J.length - 1) log = false := by simp [fit]; omega
        rw [hf] at hK6
        simp [c1, c2]
        exact hK6 _ rfl rfl rfl
      · have hf : fit 0 (J.length - 1) log = true := by simp [fit]; omega
        rw [hf] at hK6
        simp [c1, c2]
        exact hK6 _ rfl rfl rfl
  · have hv : needV J log = (0, checkJ J) := by unfold needV; rw [if_pos hc]
    refine ab_cond_of rfl (fun _ => ?_) (fun h => by simp [hc] at h)
    refine ab_seq_k fun K4 h4 => ?_
    simp
    refine callK_of (h24 _) ?_
    simp
    refine h4 _ _ _ ?_
    clear h4 K4
    simp
    refine fin_of 3 ?_
    simp [rs46, hv]
end Go.Ab
