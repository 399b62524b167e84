/- Circles: what the document's answer says of them, and the program's Circle. -/
import Derived.Test.YtgaijhpekajflaaUO
set_option linter.unusedVariables false
set_option linter.unusedSimpArgs false
set_option maxHeartbeats 8000000
set_option maxRecDepth 100000
namespace Go.Ab
open Go Go.Proofs

theorem stepB_lt {n M : Int} {N : Nat} {D : List Db} {s : Nat} (hn : n = (N : Int)) (hD : DbOK n M D) : stepB D s < 2 ^ N := by
  refine Nat.lt_pow_two_of_testBit _ fun i hi => ?_
  by_cases h : (stepB D s).testBit i = true
  · obtain ⟨u, -, h2⟩ := (stepB_bit hD).1 h
    obtain ⟨d, hd, -, h3⟩ := owB_iff.1 h2
    have := hD d hd
    omega
  · simpa using h
theorem atB_lt {n M : Int} {N : Nat} {D : List Db} {f : Nat} (hn : n = (N : Int)) (hD : DbOK n M D) (hf : f < N) : ∀ k, atB D f k < 2 ^ N
  | 0 => Nat.pow_lt_pow_right (by omega) hf
  | k + 1 => stepB_lt hn hD
theorem stepB_take {D : List Db} {i s : Nat} {d : Db} (h : D[i]? = some d) : stepB (D.take (i + 1)) s = if s.testBit d.1.toNat then stepB (D.take i) s ||| 2 ^ d.2.1.toNat else stepB (D.take i) s := by
  rw [List.take_add_one, h]
  exact stepB_snoc
/-- The least one so far. -/
structure Shr (ed : Nat → Nat → Bool) (N b f0 n0 : Nat) : Prop where
  le : b ≤ N
  at_ : b ≠ 0 → ∃ f, f < N ∧ Wk ed b f f
  least : ∀ f n, f < N → (f < f0 ∨ (f = f0 ∧ n < n0)) → 1 ≤ n → n ≤ N → Wk ed n f f → b ≠ 0 ∧ b ≤ n
theorem Shr.done {ed N b} (h : Shr ed N b N 1) : IsShort ed N b := ⟨h.le, h.at_, fun f n hf h1 h2 hw => h.least f n hf (.inl hf) h1 h2 hw⟩
def shortN (ed : Nat → Nat → Bool) (N : Nat) : Nat := (circF ed N).length
theorem short_is {ed N b} (hlt : ∀ a b, ed a b = true → b < N) (h : IsShort ed N b) : b = shortN ed N := h.uniq (circ_spec hlt).short
theorem owB_lt {N : Nat} {M : Int} {D : List Db} (hD : DbOK N M D) : ∀ a b, owB D a b = true → b < N := by
  intro a b h
  obtain ⟨d, hd, -, h3⟩ := owB_iff.1 h
  have := hD d hd
  omega
theorem short42 {N : Nat} {D : List Db} {f : Bool} (hN : N ≤ 10) (hD : DbOK N 1000000 D) (hl : D.length ≤ 50) : FSpec Try.prog 42 [bookV N D f] [] (.i .i64 (shortN (owB D) N : Nat)) [] := by
  refine fn42.spec0 mixed noIt_ok ?_
  rw [ic42]
  have hpw := pow_small hN
  have hat := fun f (hf : f < N) k => atB_lt (n := (N : Int)) (N := N) rfl hD hf k
  refine ab_seq_k fun K1 h1 => ?_
  simp
  refine h1 _ _ _ ?_
  clear h1 K1
  refine ab_seq_k fun K2 h2 => ?_
  simp
  refine h2 _ _ _ ?_
  clear h2 K2
  refine ab_seq_k fun K3 h3 => ?_
  refine ab_seq_k fun K4 h4 => ?_
  simp
  refine h4 _ _ _ ?_
  clear h4 K4
  refine ab_block_k fun K5 h5 => ?_
  refine ab_loop_k (fun m env σ => ∃ f0 b : Nat, f0 + m = N ∧ Shr (owB D) N b f0 1 ∧ env = [(1, .p 0 0 0), (3, .i .i64 b), (4, .i .i64 f0)] ∧ σ = [O.row 0 (bookC N D f)]) N
    ⟨0, 0, by omega, ⟨by omega, fun h => absurd rfl h, fun f n hf h => by omega⟩, by simp, rfl⟩ ?_
  rintro m env σ ⟨f0, b, hf0, hS, rfl, rfl⟩ K6 h6
  rw [ic42_2]
  refine ab_seq_k fun K7 h7 => ?_
  refine ab_seq_k fun K8 h8 => ?_
  simp [get0_bookC]
  refine h8 _ _ _ ?_
  clear h8 K8
  refine ab_cond_of rfl (fun hc => ?_) (fun hc => ?_)
  case refine_2 =>
    have : f0 = N := by simp at hc; omega
    subst this
    have hb := short_is (owB_lt hD) hS.done
    simp
    refine h5 _ _ _ ?_
    refine h3 _ _ _ ?_
    refine ab_seq_k fun K31 h31 => ?_
    simp
    refine h31 _ _ _ ?_
    clear h31 K31
    simp
    exact fin_of 1 (by simp [rs42, hb])
  have hfN : f0 < N := by simpa using hc
  have e2 := shl_nat' (m := f0) (by omega)
  have ha0 : (2 : Nat) ^ f0 = atB D f0 0 := rfl
  have hsucc : ∀ k, atB D f0 (k + 1) = stepB D (atB D f0 k) := fun _ => rfl
  have hlt0 := hat f0 hfN
  have hbit : ∀ {k v : Nat}, (atB D f0 k).testBit v = true ↔ Wk (owB D) k f0 v := atB_bit hD
  rw [ha0] at e2
  simp
  refine h7 _ _ _ ?_
  clear h7 K7
  refine ab_seq_k fun K9 h9 => ?_
  refine ab_block_k fun K10 h10 => ?_
  refine ab_seq_k fun K11 h11 => ?_
  simp [e2]
  refine h11 _ _ _ ?_
  clear h11 K11
  refine ab_seq_k fun K12 h12 => ?_
  simp
  refine h12 _ _ _ ?_
  clear h12 K12
  generalize hA : atB D f0 = A at *
  refine ab_block_k fun K13 h13 => ?_
  refine ab_loop_k (fun m env σ => ∃ n0 b : Nat, n0 + m = N + 1 ∧ 1 ≤ n0 ∧ Shr (owB D) N b f0 n0 ∧ env = [(1, .p 0 0 0), (3, .i .i64 b), (4, .i .i64 f0), (5, .i .i64 (A (n0 - 1) : Nat)), (6, .i .i64 n0)] ∧ σ = [O.row 0 (bookC N D f)]) N
    ⟨1, b, by omega, by omega, hS, by simp, rfl⟩ ?_
  clear hS
  rintro m1 env σ ⟨n0, b, hn0, hn1, hS, rfl, rfl⟩ K14 h14
  rw [ic42_1]
  refine ab_seq_k fun K15 h15 => ?_
  refine ab_seq_k fun K16 h16 => ?_
  simp [get0_bookC]
  refine h16 _ _ _ ?_
  clear h16 K16
  refine ab_cond_of rfl (fun hc2 => ?_) (fun hc2 => ?_)
  case refine_2 =>
    have : n0 = N + 1 := by have := of_decide_eq_false hc2; omega
    subst this
    simp
    refine h13 _ _ _ ?_
    refine h10 _ _ _ ?_
    refine h9 _ _ _ ?_
    simp [wrap64 (x := (f0 : Int) + 1) (by omega) (by omega)]
    refine h6 _ _ _ (again (m - 1) (by omega) ⟨f0 + 1, b, by omega, ⟨hS.le, hS.at_, fun g n hg h h1 h2 hw => hS.least g n hg (by omega) h1 h2 hw⟩, by simp, rfl⟩)
  have hnN : n0 ≤ N := by have := of_decide_eq_true hc2; omega
  obtain ⟨n, rfl⟩ : ∃ n, n0 = n + 1 := ⟨n0 - 1, by omega⟩
  simp only [Nat.add_sub_cancel] at *
  have hs := hlt0 n
  have hs1 := hlt0 (n + 1)
  have hbits : (A (n + 1)).testBit f0 = true ↔ Wk (owB D) (n + 1) f0 f0 := hbit
  rw [hsucc n] at hs1 hbits
  have hAn : A (n + 1) = stepB D (A n) := hsucc n
  generalize A n = s at *
  simp
  refine h15 _ _ _ ?_
  clear h15 K15
  refine ab_seq_k fun K17 h17 => ?_
  refine ab_block_k fun K18 h18 => ?_
  refine ab_seq_k fun K19 h19 => ?_
  simp
  refine h19 _ _ _ ?_
  clear h19 K19
  refine ab_seq_k fun K20 h20 => ?_
  refine ab_seq_k fun K21 h21 => ?_
  simp
  refine h21 _ _ _ ?_
  clear h21 K21
  refine ab_block_k fun K22 h22 => ?_
  have hDi : ∀ i, DbOK N 1000000 (D.take i) := fun i x hx => hD x (List.mem_of_mem_take hx)
  refine ab_loop_k (fun m env σ => ∃ i : Nat, i + m = D.length ∧ env = [(1, .p 0 0 0), (3, .i .i64 b), (4, .i .i64 f0), (5, .i .i64 s), (6, .i .i64 ((n : Int) + 1)), (7, .i .i64 (stepB (D.take i) s : Nat)), (8, .i .i64 i)] ∧ σ = [O.row 0 (bookC N D f)]) D.length
    ⟨0, by omega, by simp [stepB], rfl⟩ ?_
  rintro m2 env σ ⟨i, hi, rfl, rfl⟩ K23 h23
  rw [ic42_0]
  refine ab_seq_k fun K24 h24 => ?_
  refine ab_seq_k fun K25 h25 => ?_
  simp [get1_bookC]
  refine h25 _ _ _ ?_
  clear h25 K25
  refine ab_cond_of rfl (fun hc3 => ?_) (fun hc3 => ?_)
  · have hil : i < D.length := by simpa using hc3
    obtain ⟨d, hd⟩ : ∃ d, D[i]? = some d := ⟨_, List.getElem?_eq_getElem hil⟩
    obtain ⟨z1, z2, z3, z4⟩ := lsD_get hd
    have hdm := hD d (List.mem_of_getElem? hd)
    have hst := stepB_take (s := s) hd
    have hb1 := stepB_lt (n := (N : Int)) (N := N) (s := s) rfl (hDi i)
    have hb2 := stepB_lt (n := (N : Int)) (N := N) (s := s) rfl (hDi (i + 1))
    obtain ⟨p, hp⟩ : ∃ p : Nat, d.1 = (p : Int) := ⟨d.1.toNat, by omega⟩
    obtain ⟨q, hq⟩ : ∃ q : Nat, d.2.1 = (q : Int) := ⟨d.2.1.toNat, by omega⟩
    rw [hp] at z2
    rw [hq] at z3
    obtain ⟨z2l, z2'⟩ := List.getElem?_eq_some_iff.1 z2
    obtain ⟨z3l, z3'⟩ := List.getElem?_eq_some_iff.1 z3
    simp only [hp, hq, Int.toNat_natCast] at hst
    have hbk := bit_eq (s := s) (m := p) (by omega) (by omega)
    have e3 := shl_nat' (m := q) (by omega)
    have hor := or_nat (a := stepB (D.take i) s) (b := 2 ^ q) (by omega) (by have := Nat.pow_lt_pow_right (a := 2) (by omega) (show q < N by omega); omega)
    obtain ⟨W, hW⟩ : ∃ W, W = 2 ^ q := ⟨_, rfl⟩
    rw [← hW] at e3 hor hst
    generalize stepB (D.take i) s = x at *
    generalize hy : stepB (D.take (i + 1)) s = y at *
    simp
    refine h24 _ _ _ ?_
    clear h24 K24
    refine ab_seq_k fun K26 h26 => ?_
    refine ab_block_k fun K27 h27 => ?_
    refine ab_seq_k fun K28 h28 => ?_
    simp [get1_bookC, z2, z2', hil, hbk]
    refine h28 _ _ _ ?_
    clear h28 K28
    have hend : ∀ env, get env 1 = .p 0 0 0 → get env 3 = .i .i64 b → get env 4 = .i .i64 f0 → get env 5 = .i .i64 s → get env 6 = .i .i64 ((n : Int) + 1) → get env 7 = .i .i64 y → get env 8 = .i .i64 i → K27 (some 0) env [O.row 0 (bookC N D f)] := by
      intro env w1 w3 w4 w5 w6 w7 w8
      refine h27 _ _ _ ?_
      refine h26 _ _ _ ?_
      simp [w1, w3, w4, w5, w6, w7, w8, wrap64 (x := (i : Int) + 1) (by omega) (by omega)]
      exact h23 _ _ _ (again (m2 - 1) (by omega) ⟨i + 1, by omega, by simp [hy], rfl⟩)
    cases hb : s.testBit p with
    | true =>
      rw [hb, if_pos rfl] at hst
      refine ab_cond_of rfl (fun _ => ?_) (fun h => by simp [hb] at h)
      simp [get1_bookC, z3, z3', hil, e3, hor]
      exact hend _ rfl rfl rfl rfl rfl (by rw [hst]; rfl) rfl
    | false =>
      rw [hb, if_neg (by simp)] at hst
      refine ab_cond_of rfl (fun h => by simp [hb] at h) (fun _ => ?_)
      simp
      exact hend _ rfl rfl rfl rfl rfl (by rw [hst]; rfl) rfl
  have hil : i = D.length := by simp at hc3; omega
  subst hil
  rw [List.take_length, ← hAn]
  rw [← hAn] at hs1 hbits
  simp
  refine h22 _ _ _ ?_
  refine h20 _ _ _ ?_
  clear h20 h22 h23 h24 K20 K22 K23 K24 hc3
  refine ab_seq_k fun K29 h29 => ?_
  simp
  refine h29 _ _ _ ?_
  clear h29 K29
  have hbk := bit_eq (s := A (n + 1)) (m := f0) (by omega) (by omega)
  refine ab_seq_k fun K30 h30 => ?_
  have hend : ∀ env b', get env 1 = .p 0 0 0 → get env 3 = .i .i64 (b' : Nat) → get env 4 = .i .i64 f0 → get env 5 = .i .i64 (A (n + 1) : Nat) → get env 6 = .i .i64 ((n : Int) + 1) → Shr (owB D) N b' f0 (n + 2) → K18 (some 0) env [O.row 0 (bookC N D f)] := by
    intro env b' w1 w3 w4 w5 w6 hS'
    refine h18 _ _ _ ?_
    refine h17 _ _ _ ?_
    simp [w1, w3, w4, w5, w6, wrap64 (x := (n : Int) + 1 + 1) (by omega) (by omega)]
    exact h14 _ _ _ (again (m1 - 1) (by omega) ⟨n + 2, b', by omega, by omega, hS', by simp; omega, rfl⟩)
  clear h14 h17 h18
  cases hb : (A (n + 1)).testBit f0 with
  | false =>
    have hnw : ¬ Wk (owB D) (n + 1) f0 f0 := fun h => by rw [hbits.2 h] at hb; cases hb
    simp [hbk, hb]
    refine h30 _ _ _ ?_
    refine ab_cond_of rfl (fun h => by simp at h) (fun _ => ?_)
    simp
    refine hend _ b rfl rfl rfl rfl rfl ⟨hS.le, hS.at_, fun g k hg h h1 h2 hw => ?_⟩
    by_cases he : g = f0 ∧ k = n + 1
    · obtain ⟨rfl, rfl⟩ := he
      exact absurd hw hnw
    · exact hS.least g k hg (by omega) h1 h2 hw
  | true =>
    have hw := hbits.1 hb
    by_cases hbb : b = 0 ∨ n + 1 < b
    · have hS' : Shr (owB D) N (n + 1) f0 (n + 2) := ⟨by omega, fun _ => ⟨f0, hfN, hw⟩, fun g k hg h h1 h2 hw' => by
        refine ⟨by omega, ?_⟩
        by_cases he : g = f0 ∧ k = n + 1
        · omega
        · obtain ⟨h3, h4⟩ := hS.least g k hg (by omega) h1 h2 hw'
          omega⟩
      by_cases hb0 : b = 0
      · simp [hbk, hb, hb0]
        refine h30 _ _ _ ?_
        refine ab_cond_of rfl (fun _ => ?_) (fun h => by simp at h)
        simp
        exact hend _ (n + 1) rfl (by simp) rfl rfl rfl hS'
      · have hlt : (n : Int) + 1 < b := by omega
        simp [hbk, hb, hb0, hlt]
        refine h30 _ _ _ ?_
        refine ab_cond_of rfl (fun _ => ?_) (fun h => by simp at h)
        simp
        exact hend _ (n + 1) rfl (by simp) rfl rfl rfl hS'
    · have hb0 : b ≠ 0 := by omega
      have hlt : ¬ (n : Int) + 1 < b := by omega
      simp [hbk, hb, hb0, hlt]
      refine h30 _ _ _ ?_
      refine ab_cond_of rfl (fun h => by simp at h) (fun _ => ?_)
      simp
      refine hend _ b rfl rfl rfl rfl rfl ⟨hS.le, hS.at_, fun g k hg h h1 h2 hw' => ?_⟩
      by_cases he : g = f0 ∧ k = n + 1
      · omega
      · exact hS.least g k hg (by omega) h1 h2 hw'

theorem owes76 {n x y : Int} {D : List Db} {f : Bool} (hl : D.length ≤ 50) : FSpec Try.prog 76 [bookV n D f, .i .i64 x, .i .i64 y] [] (.b (D.any fun d => decide (d.1 = x) && decide (d.2.1 = y))) [] := by
  refine fn76.spec0 mixed noIt_ok ?_
  rw [ic76]
  refine ab_seq_k fun K1 h1 => ?_
  simp
  refine h1 _ _ _ ?_
  clear h1 K1
  refine ab_seq_k fun K2 h2 => ?_
  refine ab_seq_k fun K3 h3 => ?_
  simp
  refine h3 _ _ _ ?_
  refine ab_block_k fun K4 h4 => ?_
  refine ab_loop_k (fun m env σ => ∃ i : Nat, i + m = D.length ∧ (∀ d ∈ D.take i, ¬ (d.1 = x ∧ d.2.1 = y)) ∧ env = [(1, .i .i64 x), (2, .i .i64 y), (3, .p 0 0 0), (7, .i .i64 i)] ∧ σ = [O.row 0 (bookC n D f)]) D.length
    ⟨0, by omega, by simp, by simp, rfl⟩ ?_
  rintro m env σ ⟨i, hi, hno, rfl, rfl⟩ K5 h5
  rw [ic76_0]
  refine ab_seq_k fun K6 h6 => ?_
  refine ab_seq_k fun K7 h7 => ?_
  simp [get1_bookC]
  refine h7 _ _ _ ?_
  clear h7 K7
  refine ab_cond_of rfl (fun hc => ?_) (fun hc => ?_)
  · have hil : i < D.length := by simpa using hc
    obtain ⟨d, hd⟩ : ∃ d, D[i]? = some d := ⟨_, List.getElem?_eq_getElem hil⟩
    obtain ⟨z1, z2, z3, z4⟩ := lsD_get hd
    obtain ⟨z2l, z2'⟩ := List.getElem?_eq_some_iff.1 z2
    obtain ⟨z3l, z3'⟩ := List.getElem?_eq_some_iff.1 z3
    simp
    refine h6 _ _ _ ?_
    clear h6 K6
    refine ab_seq_k fun K8 h8 => ?_
    refine ab_block_k fun K9 h9 => ?_
    refine ab_seq_k fun K10 h10 => ?_
    have hret : ∀ env t, get env 32 = .b t → get env 1 = .i .i64 x → get env 2 = .i .i64 y → get env 3 = .p 0 0 0 → get env 7 = .i .i64 i → t = (decide (d.1 = x) && decide (d.2.1 = y)) → K10 (some 0) env [O.row 0 (bookC n D f)] := by
      intro env t w w1 w2 w3 w7 ht
      refine h10 _ _ _ ?_
      refine ab_cond_of (by rw [ev_t]; exact w) (fun h => ?_) (fun h => ?_)
      · have hdd : (D.any fun d => decide (d.1 = x) && decide (d.2.1 = y)) = true := List.any_eq_true.2 ⟨d, List.mem_of_getElem? hd, by rw [← ht]; exact h⟩
        refine ab_seq_k fun K20 h20 => ?_
        simp
        refine h20 _ _ _ ?_
        clear h20 K20
        simp
        exact fin_of 1 (by simp only [rs76]; rw [hdd]; simp)
      · rw [h] at ht
        simp
        refine h9 _ _ _ ?_
        refine h8 _ _ _ ?_
        simp [w1, w2, w3, w7, wrap64 (x := (i : Int) + 1) (by omega) (by omega)]
        refine h5 _ _ _ (again (m - 1) (by omega) ⟨i + 1, by omega, fun e he => ?_, by simp, rfl⟩)
        rw [List.take_add_one, hd] at he
        rcases List.mem_append.1 he with he | he
        · exact hno e he
        · simp at he; subst he
          rintro ⟨a1, a2⟩
          rw [a1, a2] at ht
          simp at ht
    by_cases h1 : d.1 = x
    · simp [get1_bookC, z2, z2', z3, z3', hil, h1]
      exact hret _ _ rfl rfl rfl rfl rfl (by simp [h1])
    · simp [get1_bookC, z2, z2', z3, z3', hil, h1]
      exact hret _ _ rfl rfl rfl rfl rfl (by simp [h1])
  · have hil : i = D.length := by simp at hc; omega
    subst hil
    rw [List.take_length] at hno
    have hdd : (D.any fun d => decide (d.1 = x) && decide (d.2.1 = y)) = false := by
      rw [List.any_eq_false]
      intro d hd h
      exact hno d hd (by simpa using h)
    simp
    refine h4 _ _ _ ?_
    refine h2 _ _ _ ?_
    refine ab_seq_k fun K21 h21 => ?_
    simp
    refine h21 _ _ _ ?_
    clear h21 K21
    simp
    exact fin_of 1 (by simp only [rs76]; rw [hdd]; simp)
def circE (n : Int) (D : List Db) : Int := if checkBook n D ≠ 0 then checkBook n D else if shortN (owB D) n.toNat = 0 then 5 else 0
theorem err40 {n : Int} {D : List Db} {f : Bool} (hl : (D.length : Int) < 9223372036854775808) : FSpec Try.prog 40 [bookV n D f] [] (.i .i64 (circE n D)) [] := by
  refine fn40.spec0 mixed noIt_ok ?_
  rw [ic40]
  have G := fun σ => FSpec.frame (σ := σ) (refBook (n := n) (D := D) (f := f) hl) (by simp) rfl
  refine ab_seq_k fun K1 h1 => ?_
  simp
  refine h1 _ _ _ ?_
  clear h1 K1
  refine ab_seq_k fun K2 h2 => ?_
  refine ab_seq_k fun K3 h3 => ?_
  simp [take_bookC]
  refine callK_of (G _) ?_
  simp [take_bookC]
  refine h3 _ _ _ ?_
  clear h3 K3
  by_cases hc : checkBook n D = 0
  case neg =>
    refine ab_cond_of rfl (fun _ => ?_) (fun h => by simp [hc] at h)
    refine ab_seq_k fun K4 h4 => ?_
    simp [take_bookC]
    refine callK_of (G _) ?_
    simp [take_bookC]
    refine h4 _ _ _ ?_
    clear h4 K4
    simp
    exact fin_of 1 (by simp [rs40, circE, hc])
  refine ab_cond_of rfl (fun h => by simp [hc] at h) (fun _ => ?_)
  simp
  refine h2 _ _ _ ?_
  clear h2 K2
  obtain ⟨N, rfl, hN1, hN, hlen, hD⟩ := book_nat hc
  have G2 := fun σ => FSpec.frame (σ := σ) (short42 (N := N) (D := D) (f := f) hN hD (by omega)) (by simp) rfl
  refine ab_seq_k fun K5 h5 => ?_
  refine ab_seq_k fun K6 h6 => ?_
  simp [take_bookC]
  refine callK_of (G2 _) ?_
  simp [take_bookC]
  refine h6 _ _ _ ?_
  clear h6 K6
  by_cases hs : shortN (owB D) N = 0
  · refine ab_cond_of rfl (fun _ => ?_) (fun h => by simp [hs] at h)
    refine ab_seq_k fun K7 h7 => ?_
    simp
    refine h7 _ _ _ ?_
    clear h7 K7
    simp
    exact fin_of 1 (by simp [rs40, circE, hc, hs])
  · refine ab_cond_of rfl (fun h => by simp [hs] at h) (fun _ => ?_)
    simp
    refine h5 _ _ _ ?_
    refine ab_seq_k fun K7 h7 => ?_
    simp
    refine h7 _ _ _ ?_
    clear h7 K7
    simp
    exact fin_of 1 (by simp [rs40, circE, hc, hs])
theorem resV_pure {c : List Nat} : (resV c).pure = true := by simp [resV]
def circV (n : Int) (D : List Db) : V := if checkBook n D ≠ 0 then .tup [.ss [] 0 true, .i .i64 (checkBook n D)] else .tup [resV (circF (edF (owF D)) n.toNat), .i .i64 (if circF (edF (owF D)) n.toNat = [] then 5 else 0)]
theorem circle39 {n : Int} {D : List Db} {f : Bool} (hl : (D.length : Int) < 9223372036854775808) : FSpec Try.prog 39 [bookV n D f] [] (circV n D) [] := by
  refine fn39.spec0 mixed noIt_ok ?_
  rw [ic39]
  have G := fun σ => FSpec.frame (σ := σ) (checkBook_ok (n := n) (D := D) (f := f) hl) (by simp) rfl
  refine ab_seq_k fun K1 h1 => ?_
  simp
  refine h1 _ _ _ ?_
  clear h1 K1
  refine ab_seq_k fun K2 h2 => ?_
  refine ab_seq_k fun K3 h3 => ?_
  simp [take_bookC]
  refine callK_of (G _) ?_
  simp [take_bookC]
  refine h3 _ _ _ ?_
  clear h3 K3
  refine ab_seq_k fun K4 h4 => ?_
  by_cases hc : checkBook n D = 0
  case neg =>
    simp [hc]
    refine h4 _ _ _ ?_
    refine ab_cond_of rfl (fun _ => ?_) (fun h => by simp at h)
    refine ab_seq_k fun K5 h5 => ?_
    simp
    refine h5 _ _ _ ?_
    clear h5 K5
    simp
    exact fin_of 1 (by simp [rs39, circV, hc])
  simp [hc]
  refine h4 _ _ _ ?_
  clear h4 K4
  refine ab_cond_of rfl (fun h => by simp at h) (fun _ => ?_)
  simp
  refine h2 _ _ _ ?_
  clear h2 K2
  obtain ⟨N, rfl, hN1, hN, hlen, hD⟩ := book_nat hc
  obtain ⟨-, -, -, hnd⟩ := book_ok hc
  obtain ⟨hO, -⟩ := ow_ok hD hnd
  have hv : circV N D = .tup [resV (circF (edF (owF D)) N), .i .i64 (if circF (edF (owF D)) N = [] then 5 else 0)] := by unfold circV; rw [if_neg (by simp [hc]), Int.toNat_natCast]
  rw [hv]
  refine ab_seq_k fun K6 h6 => ?_
  simp [abDs_consU, drU, recheck_cons, recheck_nil, rcK, IS.dst, take_bookC, get0_bookC]
  refine callK_of (FSpec.frame (newOwed74s hD hnd hlen) (by simp) (pure_mpV hO.pure)) ?_
  simp [abDs_consU, drU, recheck_cons, recheck_nil, rcK, IS.dst]
  refine callK_of (v := resV (circF (edF (owF D)) N)) (by simpa using circle73s hN1 hN hO) ?_
  simp [abDs_consU, drU, recheck_cons, recheck_nil, rcK, IS.dst]
  refine h6 _ _ _ ?_
  clear h6 K6
  generalize circF (edF (owF D)) N = c
  refine ab_seq_k fun K7 h7 => ?_
  refine ab_seq_k fun K8 h8 => ?_
  simp [resV]
  refine h8 _ _ _ ?_
  clear h8 K8
  by_cases hcn : c = []
  · subst hcn
    refine ab_cond_of rfl (fun _ => ?_) (fun h => by simp at h)
    refine ab_seq_k fun K9 h9 => ?_
    simp
    refine h9 _ _ _ ?_
    clear h9 K9
    simp
    exact fin_of 1 (by simp [rs39, resV, wI, ints])
  · have : c.length ≠ 0 := fun h => hcn (List.length_eq_zero_iff.1 h)
    refine ab_cond_of rfl (fun h => by simp at h; exact absurd h hcn) (fun _ => ?_)
    simp
    refine h7 _ _ _ ?_
    refine ab_seq_k fun K9 h9 => ?_
    simp
    refine h9 _ _ _ ?_
    clear h9 K9
    simp
    refine fin_of 1 ?_
    simp [rs39, hcn, resV]
/-- The document's test of a circle, of one. -/
theorem isCirc43 {N : Nat} {D : List Db} {f fl : Bool} {c : List Nat} (hN : N ≤ 10) (hl : D.length ≤ 50) (hc : CircOK (owB D) N c) (h2 : 2 ≤ c.length) : FSpec Try.prog 43 [bookV N D f, sl (wI c) fl] [] (.b true) [] := by
  refine fn43.spec0 mixed noIt_ok ?_
  rw [ic43]
  have hcl := hc.le
  have G := fun (x y : Int) σ => FSpec.frame (σ := σ) (owes76 (n := N) (x := x) (y := y) (D := D) (f := f) hl) (by simp) rfl
  refine ab_seq_k fun K1 h1 => ?_
  simp
  refine h1 _ _ _ ?_
  clear h1 K1
  refine ab_seq_k fun K2 h2 => ?_
  refine ab_seq_k fun K3 h3 => ?_
  simp
  refine h3 _ _ _ ?_
  refine ab_block_k fun K4 h4 => ?_
  refine ab_loop_k (fun m env σ => ∃ i : Nat, i + m = c.length ∧ env = [(1, sl (wI c) fl), (2, .p 0 0 0), (5, .i .i64 i)] ∧ σ = [O.row 0 (bookC N D f)]) c.length ⟨0, by omega, by simp, rfl⟩ ?_
  rintro m env σ ⟨i, hi, rfl, rfl⟩ K5 h5
  rw [ic43_1]
  refine ab_seq_k fun K6 h6 => ?_
  refine ab_seq_k fun K7 h7 => ?_
  simp
  refine h7 _ _ _ ?_
  clear h7 K7
  refine ab_cond_of rfl (fun hcc => ?_) (fun hcc => ?_)
  · have hil : i < c.length := by simpa using hcc
    obtain ⟨x, hx⟩ : ∃ x, c[i]? = some x := ⟨_, List.getElem?_eq_getElem hil⟩
    have hxN := hc.lt x (List.mem_of_getElem? hx)
    have hmod : (i + 1) % c.length < c.length := Nat.mod_lt _ (by omega)
    obtain ⟨y, hy⟩ : ∃ y, c[(i + 1) % c.length]? = some y := ⟨_, List.getElem?_eq_getElem hmod⟩
    have hed := hc.cl i x y hx hy
    have how : (D.any fun d => decide (d.1 = (x : Int)) && decide (d.2.1 = (y : Int))) = true := hed
    have w1 : (wI c)[i]? = some (x : Int) := by simp [wI, hx]
    have w2 : (wI c)[(i + 1) % c.length]? = some (y : Int) := by simp [wI, hy]
    obtain ⟨w1l, w1'⟩ := List.getElem?_eq_some_iff.1 w1
    have kt : ((i : Int) + 1).tmod c.length = (((i + 1) % c.length : Nat) : Int) := by rw [Int.tmod_eq_emod_of_nonneg (by omega), Int.natCast_emod, Int.natCast_add]; rfl
    have hc0 : ¬ ((c.length : Int) = 0) := by omega
    have hc0' : c ≠ [] := fun h => by subst h; simp at hil
    have kw := wrap64 (x := (((i + 1) % c.length : Nat) : Int)) (by omega) (by omega)
    generalize (i + 1) % c.length = j at *
    obtain ⟨w2l, w2'⟩ := List.getElem?_eq_some_iff.1 w2
    simp
    refine h6 _ _ _ ?_
    clear h6 K6
    refine ab_seq_k fun K8 h8 => ?_
    refine ab_block_k fun K9 h9 => ?_
    refine ab_seq_k fun K10 h10 => ?_
    refine ab_seq_k fun K11 h11 => ?_
    have hxn : ¬ ((x : Int) < 0) := by omega
    have hxn' : ¬ ((N : Int) ≤ x) := by omega
    simp [abDs_consU, drU, recheck_cons, recheck_nil, rcK, IS.dst, w1, w1', w2, w2', hil, hmod, hxn, hxn', hxN, get0_bookC, take_bookC, wrap64 (x := (i : Int) + 1) (by omega) (by omega), kt, kw, hc0, hc0']
    refine callK_of (G _ _ _) ?_
    rw [how]
    simp [abDs_consU, drU, recheck_cons, recheck_nil, rcK, IS.dst]
    refine h11 _ _ _ ?_
    refine ab_cond_of rfl (fun h => by simp at h) (fun _ => ?_)
    simp
    refine h10 _ _ _ ?_
    clear h10 h11 K10 K11
    refine ab_seq_k fun K12 h12 => ?_
    simp
    refine h12 _ _ _ ?_
    clear h12 K12
    refine ab_block_k fun K13 h13 => ?_
    refine ab_loop_k (fun m env σ => ∃ k : Nat, k + m = i ∧ env = [(1, sl (wI c) fl), (2, .p 0 0 0), (5, .i .i64 i), (6, .i .i64 k)] ∧ σ = [O.row 0 (bookC N D f)]) i ⟨0, by omega, by simp, rfl⟩ ?_
    rintro m1 env σ ⟨k, hk, rfl, rfl⟩ K14 h14
    rw [ic43_0]
    refine ab_seq_k fun K15 h15 => ?_
    refine ab_seq_k fun K16 h16 => ?_
    simp
    refine h16 _ _ _ ?_
    clear h16 K16
    refine ab_cond_of rfl (fun hck => ?_) (fun hck => ?_)
    · have hki : k < i := by simpa using hck
      have hkl : k < c.length := by omega
      obtain ⟨z, hz⟩ : ∃ z, c[k]? = some z := ⟨_, List.getElem?_eq_getElem hkl⟩
      have w3 : (wI c)[k]? = some (z : Int) := by simp [wI, hz]
      obtain ⟨w3l, w3'⟩ := List.getElem?_eq_some_iff.1 w3
      have hzx : z ≠ x := by
        obtain ⟨h1, h1'⟩ := List.getElem?_eq_some_iff.1 hz
        obtain ⟨h2, h2'⟩ := List.getElem?_eq_some_iff.1 hx
        have := List.pairwise_iff_getElem.1 hc.nd k i h1 h2 hki
        rw [h1', h2'] at this
        exact this
      have hzx' : ¬ ((z : Int) = x) := by omega
      simp
      refine h15 _ _ _ ?_
      clear h15 K15
      refine ab_seq_k fun K17 h17 => ?_
      refine ab_block_k fun K18 h18 => ?_
      refine ab_seq_k fun K19 h19 => ?_
      simp [abDs_consU, drU, recheck_cons, recheck_nil, rcK, IS.dst, w1, w1', w3, w3', hil, hkl, hzx, hzx']
      refine h19 _ _ _ ?_
      refine ab_cond_of rfl (fun h => by simp [hzx] at h) (fun _ => ?_)
      simp
      refine h18 _ _ _ ?_
      refine h17 _ _ _ ?_
      simp [wrap64 (x := (k : Int) + 1) (by omega) (by omega)]
      exact h14 _ _ _ (again (m1 - 1) (by omega) ⟨k + 1, by omega, by simp, rfl⟩)
    · simp
      refine h13 _ _ _ ?_
      refine h9 _ _ _ ?_
      refine h8 _ _ _ ?_
      simp [wrap64 (x := (i : Int) + 1) (by omega) (by omega)]
      exact h5 _ _ _ (again (m - 1) (by omega) ⟨i + 1, by omega, by simp, rfl⟩)
  · simp
    refine h4 _ _ _ ?_
    refine h2 _ _ _ ?_
    refine ab_seq_k fun K21 h21 => ?_
    simp
    refine h21 _ _ _ ?_
    clear h21 K21
    simp
    exact fin_of 1 (by simp [rs43]; omega)
end Go.Ab
