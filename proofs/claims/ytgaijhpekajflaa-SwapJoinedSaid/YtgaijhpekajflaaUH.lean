/- Parted, the law SwapProved. -/
import Derived.Test.YtgaijhpekajflaaUG
set_option linter.unusedVariables false
set_option linter.unusedSimpArgs false
set_option maxHeartbeats 4000000
set_option maxRecDepth 100000
namespace Go.Ab
open Go Go.Proofs

/-- A slice of bytes. -/
def bys (l : List Int) : List V := l.map (V.i .u8)
@[simp] theorem len_bys {l : List Int} : (bys l).length = l.length := by simp [bys]
@[simp] theorem pure_bys {l : List Int} : pureL (bys l) = true := by induction l <;> simp_all [bys]
@[simp] theorem get_bys {l : List Int} {i : Nat} : (bys l)[i]? = (l[i]?).map (V.i .u8) := by simp [bys]
abbrev slB (l : List Int) (f : Bool) : V := .ss (bys l) l.length f
/-- The number of a mill. -/
def keyB (by_ : List Int) (N m : Nat) : Nat := if by_.length = 0 then 0 else ((by_.getD (m % by_.length) 0) % (N : Int)).toNat
def partS (by_ : List Int) (N k : Nat) : Nat → Nat
  | 0 => 0
  | m + 1 => partS by_ N k m + if keyB by_ N m = k then 2 ^ m else 0
theorem partS_lt {by_ : List Int} {N k : Nat} : ∀ {m : Nat}, partS by_ N k m < 2 ^ m
  | 0 => by simp [partS]
  | m + 1 => by
    have := partS_lt (by_ := by_) (N := N) (k := k) (m := m)
    simp only [partS]
    rw [Nat.pow_succ]
    split <;> omega
def partsL (by_ : List Int) (N : Nat) : Nat → List Nat
  | 0 => []
  | k + 1 => partsL by_ N k ++ if 0 < partS by_ N k N then [partS by_ N k N] else []
theorem partsL_len {by_ : List Int} {N : Nat} : ∀ {k : Nat}, (partsL by_ N k).length ≤ k
  | 0 => by simp [partsL]
  | k + 1 => by
    have := partsL_len (by_ := by_) (N := N) (k := k)
    simp only [partsL]
    split <;> simp <;> omega
theorem parted46 {N : Nat} {D : List Db} {f fb : Bool} {by_ : List Int} (hN1 : 1 ≤ N) (hN : N ≤ 10) (hb : (by_.length : Int) ≤ 20) (hb2 : ∀ x ∈ by_, 0 ≤ x ∧ x ≤ 255) :
    FSpec Try.prog 46 [bookV N D f, slB by_ fb] [] (sl (ofN (partsL by_ N N)) ((partsL by_ N N).length == 0)) [] := by
  refine fn46.spec0 mixed noIt_ok ?_
  rw [ic46]
  have hp := pow_small hN
  refine ab_seq_k fun K1 h1 => ?_
  simp
  refine h1 _ _ _ ?_
  clear h1 K1
  refine ab_seq_k fun K2 h2 => ?_
  simp
  refine h2 _ _ _ ?_
  clear h2 K2
  refine ab_seq_k fun K3 h3 => ?_
  refine ab_seq_k fun K4 h4 => ?_
  simp
  refine h4 _ _ _ ?_
  clear h4 K4
  refine ab_block_k fun K5 h5 => ?_
  refine ab_loop_k (fun m env σ => ∃ (k : Nat) (v : V), k + m = N ∧ env = [(1, slB by_ fb), (2, .p 0 0 0), (5, v), (6, .i .i64 k)] ∧ σ[0]? = some (.row 0 (bookC N D f)) ∧ Gr 1 1 σ v (partsL by_ N k).length (ints (ofN (partsL by_ N k)))) N
    ⟨0, .ss [] 0 true, by omega, by simp, rfl, by simpa [partsL, ofN, ints] using Gr.nil⟩ ?_
  rintro m env σ ⟨k, v, hk, rfl, hσ0, hv⟩ K6 h6
  obtain ⟨hs0, s0'⟩ := List.getElem?_eq_some_iff.1 hσ0
  rw [ic46_1]
  refine ab_seq_k fun K7 h7 => ?_
  refine ab_seq_k fun K8 h8 => ?_
  simp [hσ0, s0', get0_bookC]
  refine h8 _ _ _ ?_
  clear h8 K8
  refine ab_cond_of rfl (fun hc => ?_) (fun hc => ?_)
  · have hkN : k < N := by simpa using hc
    simp
    refine h7 _ _ _ ?_
    clear h7 K7
    refine ab_seq_k fun K9 h9 => ?_
    refine ab_block_k fun K10 h10 => ?_
    refine ab_seq_k fun K11 h11 => ?_
    simp
    refine h11 _ _ _ ?_
    clear h11 K11
    refine ab_seq_k fun K12 h12 => ?_
    refine ab_seq_k fun K13 h13 => ?_
    simp
    refine h13 _ _ _ ?_
    clear h13 K13
    refine ab_block_k fun K14 h14 => ?_
    refine ab_loop_k (fun m2 env σ2 => ∃ i : Nat, i + m2 = N ∧ env = [(1, slB by_ fb), (2, .p 0 0 0), (5, v), (6, .i .i64 k), (7, .i .i64 (partS by_ N k i)), (8, .i .i64 i)] ∧ σ2 = σ) N ⟨0, by omega, by simp [partS], rfl⟩ ?_
    rintro m2 env σ2 ⟨i, hi, rfl, rfl⟩ K15 h15
    rw [ic46_0]
    refine ab_seq_k fun K16 h16 => ?_
    refine ab_seq_k fun K17 h17 => ?_
    simp [hσ0, s0', get0_bookC]
    refine h17 _ _ _ ?_
    clear h17 K17
    refine ab_cond_of rfl (fun hc2 => ?_) (fun hc2 => ?_)
    · have hiN : i < N := by simpa using hc2
      have hpl := partS_lt (by_ := by_) (N := N) (k := k) (m := i)
      have hpi := (pow_small (N := i) (by omega)).2
      have e2 := shl_nat' (m := i) (by omega)
      have hst : partS by_ N k (i + 1) = partS by_ N k i + if keyB by_ N i = k then 2 ^ i else 0 := rfl
      simp
      refine h16 _ _ _ ?_
      clear h16 K16
      refine ab_seq_k fun K18 h18 => ?_
      refine ab_block_k fun K19 h19 => ?_
      refine ab_seq_k fun K20 h20 => ?_
      simp
      refine h20 _ _ _ ?_
      clear h20 K20
      refine ab_seq_k fun K21 h21 => ?_
      have hK : ∀ env, get env 1 = slB by_ fb → get env 2 = .p 0 0 0 → get env 5 = v → get env 6 = .i .i64 k → get env 7 = .i .i64 (partS by_ N k i) → get env 8 = .i .i64 i → get env 9 = .i .i64 (keyB by_ N i) → K21 (some 0) env σ2 := by
        intro env w1 w2 w5 w6 w7 w8 w9
        refine h21 _ _ _ ?_
        clear h21 K21
        have hend : ∀ env, get env 1 = slB by_ fb → get env 2 = .p 0 0 0 → get env 5 = v → get env 6 = .i .i64 k → get env 7 = .i .i64 (partS by_ N k (i + 1)) → get env 8 = .i .i64 i → K19 (some 0) env σ2 := by
          intro env w1 w2 w5 w6 w7 w8
          refine h19 _ _ _ ?_
          refine h18 _ _ _ ?_
          simp [w1, w2, w5, w6, w7, w8, wrap64 (x := (i : Int) + 1) (by omega) (by omega)]
          exact h15 _ _ _ (again (m2 - 1) (by omega) ⟨i + 1, by omega, by simp, rfl⟩)
        generalize keyB by_ N i = kk at *
        generalize 2 ^ i = p at *
        generalize partS by_ N k i = s at *
        refine ab_seq_k fun K22 h22 => ?_
        simp [w1, w2, w5, w6, w7, w8, w9]
        refine h22 _ _ _ ?_
        by_cases hkk : kk = k
        · refine ab_cond_of rfl (fun _ => ?_) (fun h => by simp [hkk] at h)
          rw [if_pos hkk] at hst
          simp [e2, wrap64 (x := (s : Int) + p) (by omega) (by omega)]
          refine hend _ rfl rfl rfl rfl ?_ rfl
          rw [hst]; rfl
        · refine ab_cond_of rfl (fun h => by simp at h; omega) (fun _ => ?_)
          rw [if_neg hkk] at hst
          simp
          refine hend _ rfl rfl rfl rfl ?_ rfl
          rw [hst]; rfl
      clear h15 h18 h19
      refine ab_seq_k fun K23 h23 => ?_
      simp
      refine h23 _ _ _ ?_
      clear h23 K23
      refine ab_cond_of rfl (fun hc3 => ?_) (fun hc3 => ?_)
      · have hbl : 0 < by_.length := by have := of_decide_eq_true hc3; omega
        have hil2 : i % by_.length < by_.length := Nat.mod_lt _ hbl
        have hbx : by_[i % by_.length]? = some (by_.getD (i % by_.length) 0) := by simp [List.getD_eq_getElem?_getD, List.getElem?_eq_getElem hil2]
        have hyb := hb2 _ (List.mem_of_getElem? hbx)
        have hkk2 : ((by_.getD (i % by_.length) 0) % (N : Int)).toNat = keyB by_ N i := by rw [keyB, if_neg (by omega)]
        have ht : (i : Int).tmod by_.length = ((i % by_.length : Nat) : Int) := by rw [Int.tmod_eq_emod_of_nonneg (by omega), Int.natCast_emod]
        have hne0 : ¬ by_ = [] := by rintro rfl; simp at hbl
        have hlt3 : ((i % by_.length : Nat) : Int) < by_.length := by omega
        generalize by_.getD (i % by_.length) 0 = yb at *
        generalize i % by_.length = ii at *
        obtain ⟨hbxl, hbx'⟩ := List.getElem?_eq_some_iff.1 hbx
        have ht2 : yb.tmod (N : Int) = keyB by_ N i := by rw [Int.tmod_eq_emod_of_nonneg (by omega)]; have := Int.emod_nonneg yb (show (N : Int) ≠ 0 by omega); omega
        have hnz : ¬ (N = 0) := by omega
        simp [abDs_consU, drU, recheck_cons, recheck_nil, rcK, IS.dst, hbl, ht, hbx, hbx', hne0, hlt3, wrap64 (x := yb) (by omega) (by omega), hσ0, s0', get0_bookC, ht2, hnz]
        refine hK _ rfl rfl rfl rfl rfl rfl rfl
      · have hbl : by_.length = 0 := by have := of_decide_eq_false hc3; omega
        have hk0 : keyB by_ N i = 0 := by rw [keyB, if_pos hbl]
        simp
        exact hK _ rfl rfl rfl rfl rfl rfl (by rw [hk0]; rfl)
    · have hiN : i = N := by simp at hc2; omega
      subst hiN
      have hpl := partS_lt (by_ := by_) (N := i) (k := k) (m := i)
      have hst : partsL by_ i (k + 1) = partsL by_ i k ++ if 0 < partS by_ i k i then [partS by_ i k i] else [] := rfl
      have hpln := partsL_len (by_ := by_) (N := i) (k := k)
      simp
      refine h14 _ _ _ ?_
      refine h12 _ _ _ ?_
      clear h12 h14 h15 h16 K12 K14 K15 K16
      refine ab_seq_k fun K30 h30 => ?_
      simp
      refine h30 _ _ _ ?_
      clear h30 K30
      have hend : ∀ env σ v, get env 1 = slB by_ fb → get env 2 = .p 0 0 0 → get env 5 = v → get env 6 = .i .i64 k → σ[0]? = some (.row 0 (bookC i D f)) → Gr 1 1 σ v (partsL by_ i (k + 1)).length (ints (ofN (partsL by_ i (k + 1)))) → K10 (some 0) env σ := by
        intro env σ v w1 w2 w5 w6 a1 a2
        refine h10 _ _ _ ?_
        refine h9 _ _ _ ?_
        simp [w1, w2, w5, w6, wrap64 (x := (k : Int) + 1) (by omega) (by omega)]
        exact h6 _ _ _ (again (m - 1) (by omega) ⟨k + 1, v, by omega, by simp, a1, a2⟩)
      generalize partS by_ i k i = s at *
      by_cases h0 : 0 < s
      · refine ab_cond_of rfl (fun _ => ?_) (fun h => by simp at h; omega)
        rw [if_pos h0] at hst
        simp
        refine appG hv (by omega) (by omega) (by simp) rfl ?_
        intro v2 σ3 hv2 hg2
        simp
        refine hend _ _ _ rfl rfl rfl rfl ?_ ?_
        · rw [hg2.lt hv (by omega) (by omega)]; exact hσ0
        · rw [hst, ofN_snoc, ints_snoc, List.length_append]; exact hv2
      · refine ab_cond_of rfl (fun h => by simp at h; omega) (fun _ => ?_)
        rw [if_neg h0] at hst
        simp
        exact hend _ _ _ rfl rfl rfl rfl hσ0 (by rw [hst, List.append_nil]; exact hv)
  · have hkN : k = N := by simp at hc; omega
    subst hkN
    simp
    refine h5 _ _ _ ?_
    refine h3 _ _ _ ?_
    refine ab_seq_k fun K31 h31 => ?_
    simp
    refine h31 _ _ _ ?_
    clear h31 K31
    simp
    refine fin_of 2 ?_
    simp [-frz, rs46]
    rw [frz_G hv (by simp)]
    simp [sl]
/-- What an answer of CheckGroups, or CheckPrices, says. -/
theorem chkG_le {N : Nat} {D : List Db} {P : List Int} {a : Int} (h : chkG N D P = (a, 0)) (hc : checkBook N D = 0) : a ≤ topP N D := by
  unfold chkG at h
  rw [if_neg (by simp [hc]), Int.toNat_natCast] at h
  split at h
  · cases h
  split at h
  · cases h
  rename_i h1 h2
  split at h
  · cases h
  rename_i h3
  split at h
  · cases h
  rename_i h4
  have ha : (P.length : Int) = a := (Prod.mk.inj h).1
  have h3' : oneB N (nats P) = true := by simpa using h3
  have hone := oneB_iff.1 h3'
  have hPg : ∀ x ∈ P, 1 ≤ x.toNat ∧ x.toNat < 2 ^ N ∧ sumF (balF D) x.toNat N = 0 := fun x hx => by
    have hf : fit 1 (((2 ^ N : Nat) : Int) - 1) x = true := by
      cases hq : fit 1 (((2 ^ N : Nat) : Int) - 1) x with
      | true => rfl
      | false => exact absurd (List.any_eq_true.2 ⟨_, hx, by rw [hq]; rfl⟩) h2
    have hs : sumF (balF D) x.toNat N = 0 := by
      false_or_by_contra
      rename_i hq
      exact h4 (List.any_eq_true.2 ⟨_, hx, by simp [hq]⟩)
    unfold fit at hf
    simp only [Bool.and_eq_true, decide_eq_true_eq] at hf
    exact ⟨by omega, by omega, hs⟩
  have := parts_le (F := balF D) (N := N) (G := nats P) (fun g hg => by
    obtain ⟨x, hx, rfl⟩ := List.mem_map.1 hg
    have := hPg x hx
    exact ⟨this.2.1, ev_iff.2 ⟨by omega, this.2.2⟩⟩) (fun m hm => by rw [hone m hm]; omega)
  rw [nats_len] at this
  unfold topP
  omega
theorem chkP_ge {N : Nat} {D : List Db} {P : List Int} {c : Int} (h : chkP N D P = (c, 0)) (hc : checkBook N D = 0) : topP N D ≤ c := by
  unfold chkP at h
  rw [if_neg (by simp [hc]), Int.toNat_natCast] at h
  split at h
  · cases h
  split at h
  · cases h
  split at h
  · cases h
  rename_i h1 h2 h3
  split at h
  · rename_i h4
    have := pr_least (allPrB_iff.1 h4) (by simpa using h3) (2 ^ N - 1) (by have := Nat.two_pow_pos N; omega)
    have hv := (Prod.mk.inj h).1
    unfold topP
    omega
  · cases h
end Go.Ab
