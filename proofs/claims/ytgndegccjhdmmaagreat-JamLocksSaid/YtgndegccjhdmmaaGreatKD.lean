import Derived.Test.YtgndegccjhdmmaaGreatKB
/-! KD: made of KD KE KF -/
section
/- The scans of the library's partitions. -/
set_option linter.unusedVariables false
set_option linter.unusedSimpArgs false
set_option maxHeartbeats 4000000
set_option maxRecDepth 100000
namespace Go.Ab
open Go Go.Proofs

/-- What is partitioned so far: up to i, from j on. -/
structure PIg (good : V → Bool) (a b i j : Nat) (G : Nat → V) : Prop where
  p1 : a + 1 ≤ i
  p2 : i ≤ j + 1
  p3 : j < b
  lo : ∀ k, a + 1 ≤ k → k < i → good (G k) = true
  hi : ∀ k, j < k → k < b → good (G k) = false
theorem id_ {p : Prop} (h : p) : p := h
theorem PIg.up {good : V → Bool} {a b i j : Nat} {G : Nat → V} (h : PIg good a b i j G) (hij : i ≤ j) (hg : good (G i) = true) : PIg good a b (i + 1) j G :=
  ⟨by have := h.p1; omega, by omega, h.p3, fun k h1 h2 => by
    by_cases hk : k = i
    · rw [hk]; exact hg
    · exact h.lo k h1 (by omega), h.hi⟩
theorem PIg.down {good : V → Bool} {a b i j : Nat} {G : Nat → V} (h : PIg good a b i (j + 1) G) (hij : i ≤ j + 1) (hg : good (G (j + 1)) = false) : PIg good a b i j G :=
  ⟨h.p1, hij, by have := h.p3; omega, h.lo, fun k h1 h2 => by
    by_cases hk : k = j + 1
    · rw [hk]; exact hg
    · exact h.hi k (by omega) h2⟩

section
variable {cv : V} {D : V → Prop} {lt : V → V → Bool}
theorem par_up0 (hcmp : CmpOK cv D lt) {K : Kt} {E : List (Nat × Kt)} {Rt : Kt} {n0 : Nat} {env : Env} {σ : List O} {id ver n a b i j : Nat} {G : Nat → V} (hD : ∀ k, k < n → D (G k)) (hbn : b ≤ n) (hn : n ≤ 1000000) (hat : σ[id]? = some (.row ver (rowV n G))) (w0 : get env 0 = slV id ver n) (w1 : get env 1 = .i .i64 a) (w4 : get env 4 = cv) (wi : get env 12 = .i .i64 i) (wj : get env 13 = .i .i64 j) (hpi : PIg (fun x => lt x (G a)) a b i j G)
    (hK : ∀ i2, i ≤ i2 → PIg (fun x => lt x (G a)) a b i2 j G → (j < i2 ∨ (fun x => lt x (G a)) (G i2) = false) → K (some 0) [(0, slV id ver n), (1, .i .i64 a), (4, cv), (12, .i .i64 (i2 : Nat)), (13, .i .i64 (j : Nat)), (47, .b false)] σ) :
    ab Tryz.prog noY noIt n0 (.block 0 (.loop (some [0, 1, 4, 12, 13]) gpar_0)) K E Rt (some 0) env σ := by
  obtain ⟨hat1, hat'⟩ := List.getElem?_eq_some_iff.1 hat
  refine ab_block_k fun K1 h1 => ?_
  obtain ⟨i0, hi0⟩ : ∃ i0, i0 = i := ⟨_, rfl⟩
  rw [← hi0] at hK
  refine ab_loop_k (fun m env σ' => ∃ i : Nat, j + 1 - i = m ∧ i0 ≤ i ∧ PIg (fun x => lt x (G a)) a b i j G ∧ env = [(0, slV id ver n), (1, .i .i64 a), (4, cv), (12, .i .i64 (i : Nat)), (13, .i .i64 (j : Nat))] ∧ σ' = σ) _ ⟨i, rfl, by omega, hpi, by simp [w0, w1, w4, wi, wj], rfl⟩ ?_
  clear hpi hi0 w0 w1 w4 wi wj env
  rintro m env σ' ⟨i, hm, hge, hpi, rfl, rfl⟩ K2 h2
  obtain ⟨p1, p2, p3, plo, phi⟩ := id_ hpi
  rw [gpar_0]
  refine ab_seq_k fun K3 h3 => ?_
  refine ab_seq_k fun K4 h4 => ?_
  have han : a < n := by omega
  have hjn : j < n := by omega
  by_cases hij : i ≤ j
  · have hin : i < n := by omega
    simp [abDs_consU, drU, recheck_cons, recheck_nil, rcK, IS.dst, hij, hat, hat', hin, hjn, han, rowV_get]
    refine callv_cmp hcmp (hD _ (by omega)) (hD _ (by omega)) fun c hcc => ?_
    simp [abDs_consU, drU, recheck_cons, recheck_nil, rcK, IS.dst, hcc]
    refine h4 _ _ _ ?_
    clear h4
    cases hl : lt (G i) (G a) with
    | true =>
      refine ab_cond_of rfl (fun _ => ?_) (fun h => by cases h)
      simp
      refine h3 _ _ _ ?_
      refine ab_block_k fun K5 h5 => ?_
      simp [wrap64 (x := (i : Int) + 1) (by omega) (by omega)]
      refine h5 _ _ _ (h2 _ _ _ (again _ (by omega) ⟨i + 1, rfl, by omega, hpi.up (by omega) (by simp [hl]), by simp, rfl⟩))
    | false =>
      refine ab_cond_of rfl (fun h => by cases h) (fun _ => ?_)
      simp
      refine h1 _ _ _ ?_
      exact hK i hge hpi (.inr (by simp [hl]))
  · have hij2 : j < i := by omega
    simp [abDs_consU, drU, recheck_cons, recheck_nil, rcK, IS.dst, hij, hij2]
    refine h4 _ _ _ ?_
    refine ab_cond_of rfl (fun h => by cases h) (fun _ => ?_)
    simp
    refine h1 _ _ _ ?_
    exact hK i hge hpi (.inl (by omega))
theorem par_dn1 (hcmp : CmpOK cv D lt) {K : Kt} {E : List (Nat × Kt)} {Rt : Kt} {n0 : Nat} {env : Env} {σ : List O} {id ver n a b i j : Nat} {G : Nat → V} (hD : ∀ k, k < n → D (G k)) (hbn : b ≤ n) (hn : n ≤ 1000000) (hat : σ[id]? = some (.row ver (rowV n G))) (w0 : get env 0 = slV id ver n) (w1 : get env 1 = .i .i64 a) (w4 : get env 4 = cv) (wi : get env 12 = .i .i64 i) (wj : get env 13 = .i .i64 j) (hpi : PIg (fun x => lt x (G a)) a b i j G)
    (hK : ∀ j2, j2 ≤ j → PIg (fun x => lt x (G a)) a b i j2 G → (j2 < i ∨ (fun x => lt x (G a)) (G j2) = true) → K (some 0) [(0, slV id ver n), (1, .i .i64 a), (4, cv), (12, .i .i64 (i : Nat)), (13, .i .i64 (j2 : Nat)), (66, .b false)] σ) :
    ab Tryz.prog noY noIt n0 (.block 2 (.loop (some [0, 1, 4, 12, 13]) gpar_1)) K E Rt (some 0) env σ := by
  obtain ⟨hat1, hat'⟩ := List.getElem?_eq_some_iff.1 hat
  refine ab_block_k fun K1 h1 => ?_
  obtain ⟨j0, hj0⟩ : ∃ j0, j0 = j := ⟨_, rfl⟩
  rw [← hj0] at hK
  refine ab_loop_k (fun m env σ' => ∃ j : Nat, j + 1 - i = m ∧ j ≤ j0 ∧ PIg (fun x => lt x (G a)) a b i j G ∧ env = [(0, slV id ver n), (1, .i .i64 a), (4, cv), (12, .i .i64 (i : Nat)), (13, .i .i64 (j : Nat))] ∧ σ' = σ) _ ⟨j, rfl, by omega, hpi, by simp [w0, w1, w4, wi, wj], rfl⟩ ?_
  clear hpi hj0 w0 w1 w4 wi wj env
  rintro m env σ' ⟨j, hm, hge, hpi, rfl, rfl⟩ K2 h2
  obtain ⟨p1, p2, p3, plo, phi⟩ := id_ hpi
  rw [gpar_1]
  refine ab_seq_k fun K3 h3 => ?_
  refine ab_seq_k fun K4 h4 => ?_
  have han : a < n := by omega
  have hjn : j < n := by omega
  by_cases hij : i ≤ j
  · have hin : i < n := by omega
    simp [abDs_consU, drU, recheck_cons, recheck_nil, rcK, IS.dst, hij, hat, hat', hin, hjn, han, rowV_get]
    refine callv_cmp hcmp (hD _ (by omega)) (hD _ (by omega)) fun c hcc => ?_
    simp [abDs_consU, drU, recheck_cons, recheck_nil, rcK, IS.dst, hcc]
    refine h4 _ _ _ ?_
    clear h4
    cases hl : lt (G j) (G a) with
    | true =>
      refine ab_cond_of rfl (fun h => by cases h) (fun _ => ?_)
      simp
      refine h1 _ _ _ ?_
      exact hK j hge hpi (.inr (by simp [hl]))
    | false =>
      refine ab_cond_of rfl (fun _ => ?_) (fun h => by cases h)
      simp
      refine h3 _ _ _ ?_
      refine ab_block_k fun K5 h5 => ?_
      obtain ⟨j, rfl⟩ : ∃ j2, j = j2 + 1 := ⟨j - 1, by omega⟩
      simp [wrap64 (x := (j : Int)) (by omega) (by omega)]
      refine h5 _ _ _ (h2 _ _ _ (again _ (by omega) ⟨j, rfl, by omega, hpi.down (by omega) (by simp [hl]), by simp, rfl⟩))
  · have hij2 : j < i := by omega
    simp [abDs_consU, drU, recheck_cons, recheck_nil, rcK, IS.dst, hij, hij2]
    refine h4 _ _ _ ?_
    refine ab_cond_of rfl (fun h => by cases h) (fun _ => ?_)
    simp
    refine h1 _ _ _ ?_
    exact hK j hge hpi (.inl (by omega))
theorem par_up2 (hcmp : CmpOK cv D lt) {K : Kt} {E : List (Nat × Kt)} {Rt : Kt} {n0 : Nat} {env : Env} {σ : List O} {id ver n a b i j : Nat} {G : Nat → V} (hD : ∀ k, k < n → D (G k)) (hbn : b ≤ n) (hn : n ≤ 1000000) (hat : σ[id]? = some (.row ver (rowV n G))) (w0 : get env 0 = slV id ver n) (w1 : get env 1 = .i .i64 a) (w4 : get env 4 = cv) (wi : get env 12 = .i .i64 i) (wj : get env 13 = .i .i64 j) (hpi : PIg (fun x => lt x (G a)) a b i j G)
    (hK : ∀ i2, i ≤ i2 → PIg (fun x => lt x (G a)) a b i2 j G → (j < i2 ∨ (fun x => lt x (G a)) (G i2) = false) → K (some 0) [(0, slV id ver n), (1, .i .i64 a), (4, cv), (12, .i .i64 (i2 : Nat)), (13, .i .i64 (j : Nat)), (120, .b false)] σ) :
    ab Tryz.prog noY noIt n0 (.block 6 (.loop (some [0, 1, 4, 12, 13]) gpar_2)) K E Rt (some 0) env σ := by
  obtain ⟨hat1, hat'⟩ := List.getElem?_eq_some_iff.1 hat
  refine ab_block_k fun K1 h1 => ?_
  obtain ⟨i0, hi0⟩ : ∃ i0, i0 = i := ⟨_, rfl⟩
  rw [← hi0] at hK
  refine ab_loop_k (fun m env σ' => ∃ i : Nat, j + 1 - i = m ∧ i0 ≤ i ∧ PIg (fun x => lt x (G a)) a b i j G ∧ env = [(0, slV id ver n), (1, .i .i64 a), (4, cv), (12, .i .i64 (i : Nat)), (13, .i .i64 (j : Nat))] ∧ σ' = σ) _ ⟨i, rfl, by omega, hpi, by simp [w0, w1, w4, wi, wj], rfl⟩ ?_
  clear hpi hi0 w0 w1 w4 wi wj env
  rintro m env σ' ⟨i, hm, hge, hpi, rfl, rfl⟩ K2 h2
  obtain ⟨p1, p2, p3, plo, phi⟩ := id_ hpi
  rw [gpar_2]
  refine ab_seq_k fun K3 h3 => ?_
  refine ab_seq_k fun K4 h4 => ?_
  have han : a < n := by omega
  have hjn : j < n := by omega
  by_cases hij : i ≤ j
  · have hin : i < n := by omega
    simp [abDs_consU, drU, recheck_cons, recheck_nil, rcK, IS.dst, hij, hat, hat', hin, hjn, han, rowV_get]
    refine callv_cmp hcmp (hD _ (by omega)) (hD _ (by omega)) fun c hcc => ?_
    simp [abDs_consU, drU, recheck_cons, recheck_nil, rcK, IS.dst, hcc]
    refine h4 _ _ _ ?_
    clear h4
    cases hl : lt (G i) (G a) with
    | true =>
      refine ab_cond_of rfl (fun _ => ?_) (fun h => by cases h)
      simp
      refine h3 _ _ _ ?_
      refine ab_block_k fun K5 h5 => ?_
      simp [wrap64 (x := (i : Int) + 1) (by omega) (by omega)]
      refine h5 _ _ _ (h2 _ _ _ (again _ (by omega) ⟨i + 1, rfl, by omega, hpi.up (by omega) (by simp [hl]), by simp, rfl⟩))
    | false =>
      refine ab_cond_of rfl (fun h => by cases h) (fun _ => ?_)
      simp
      refine h1 _ _ _ ?_
      exact hK i hge hpi (.inr (by simp [hl]))
  · have hij2 : j < i := by omega
    simp [abDs_consU, drU, recheck_cons, recheck_nil, rcK, IS.dst, hij, hij2]
    refine h4 _ _ _ ?_
    refine ab_cond_of rfl (fun h => by cases h) (fun _ => ?_)
    simp
    refine h1 _ _ _ ?_
    exact hK i hge hpi (.inl (by omega))
theorem par_dn3 (hcmp : CmpOK cv D lt) {K : Kt} {E : List (Nat × Kt)} {Rt : Kt} {n0 : Nat} {env : Env} {σ : List O} {id ver n a b i j : Nat} {G : Nat → V} (hD : ∀ k, k < n → D (G k)) (hbn : b ≤ n) (hn : n ≤ 1000000) (hat : σ[id]? = some (.row ver (rowV n G))) (w0 : get env 0 = slV id ver n) (w1 : get env 1 = .i .i64 a) (w4 : get env 4 = cv) (wi : get env 12 = .i .i64 i) (wj : get env 13 = .i .i64 j) (hpi : PIg (fun x => lt x (G a)) a b i j G)
    (hK : ∀ j2, j2 ≤ j → PIg (fun x => lt x (G a)) a b i j2 G → (j2 < i ∨ (fun x => lt x (G a)) (G j2) = true) → K (some 0) [(0, slV id ver n), (1, .i .i64 a), (4, cv), (12, .i .i64 (i : Nat)), (13, .i .i64 (j2 : Nat)), (139, .b false)] σ) :
    ab Tryz.prog noY noIt n0 (.block 8 (.loop (some [0, 1, 4, 12, 13]) gpar_3)) K E Rt (some 0) env σ := by
  obtain ⟨hat1, hat'⟩ := List.getElem?_eq_some_iff.1 hat
  refine ab_block_k fun K1 h1 => ?_
  obtain ⟨j0, hj0⟩ : ∃ j0, j0 = j := ⟨_, rfl⟩
  rw [← hj0] at hK
  refine ab_loop_k (fun m env σ' => ∃ j : Nat, j + 1 - i = m ∧ j ≤ j0 ∧ PIg (fun x => lt x (G a)) a b i j G ∧ env = [(0, slV id ver n), (1, .i .i64 a), (4, cv), (12, .i .i64 (i : Nat)), (13, .i .i64 (j : Nat))] ∧ σ' = σ) _ ⟨j, rfl, by omega, hpi, by simp [w0, w1, w4, wi, wj], rfl⟩ ?_
  clear hpi hj0 w0 w1 w4 wi wj env
  rintro m env σ' ⟨j, hm, hge, hpi, rfl, rfl⟩ K2 h2
  obtain ⟨p1, p2, p3, plo, phi⟩ := id_ hpi
  rw [gpar_3]
  refine ab_seq_k fun K3 h3 => ?_
  refine ab_seq_k fun K4 h4 => ?_
  have han : a < n := by omega
  have hjn : j < n := by omega
  by_cases hij : i ≤ j
  · have hin : i < n := by omega
    simp [abDs_consU, drU, recheck_cons, recheck_nil, rcK, IS.dst, hij, hat, hat', hin, hjn, han, rowV_get]
    refine callv_cmp hcmp (hD _ (by omega)) (hD _ (by omega)) fun c hcc => ?_
    simp [abDs_consU, drU, recheck_cons, recheck_nil, rcK, IS.dst, hcc]
    refine h4 _ _ _ ?_
    clear h4
    cases hl : lt (G j) (G a) with
    | true =>
      refine ab_cond_of rfl (fun h => by cases h) (fun _ => ?_)
      simp
      refine h1 _ _ _ ?_
      exact hK j hge hpi (.inr (by simp [hl]))
    | false =>
      refine ab_cond_of rfl (fun _ => ?_) (fun h => by cases h)
      simp
      refine h3 _ _ _ ?_
      refine ab_block_k fun K5 h5 => ?_
      obtain ⟨j, rfl⟩ : ∃ j2, j = j2 + 1 := ⟨j - 1, by omega⟩
      simp [wrap64 (x := (j : Int)) (by omega) (by omega)]
      refine h5 _ _ _ (h2 _ _ _ (again _ (by omega) ⟨j, rfl, by omega, hpi.down (by omega) (by simp [hl]), by simp, rfl⟩))
  · have hij2 : j < i := by omega
    simp [abDs_consU, drU, recheck_cons, recheck_nil, rcK, IS.dst, hij, hij2]
    refine h4 _ _ _ ?_
    refine ab_cond_of rfl (fun h => by cases h) (fun _ => ?_)
    simp
    refine h1 _ _ _ ?_
    exact hK j hge hpi (.inl (by omega))
theorem peq_up0 (hcmp : CmpOK cv D lt) {K : Kt} {E : List (Nat × Kt)} {Rt : Kt} {n0 : Nat} {env : Env} {σ : List O} {id ver n a b i j : Nat} {G : Nat → V} (hD : ∀ k, k < n → D (G k)) (hbn : b ≤ n) (hn : n ≤ 1000000) (hat : σ[id]? = some (.row ver (rowV n G))) (w0 : get env 0 = slV id ver n) (w1 : get env 1 = .i .i64 a) (w4 : get env 4 = cv) (wi : get env 11 = .i .i64 i) (wj : get env 12 = .i .i64 j) (hpi : PIg (fun x => !lt (G a) x) a b i j G)
    (hK : ∀ i2, i ≤ i2 → PIg (fun x => !lt (G a) x) a b i2 j G → (j < i2 ∨ (fun x => !lt (G a) x) (G i2) = false) → K (some 0) [(0, slV id ver n), (1, .i .i64 a), (4, cv), (11, .i .i64 (i2 : Nat)), (12, .i .i64 (j : Nat)), (47, .b false)] σ) :
    ab Tryz.prog noY noIt n0 (.block 2 (.loop (some [0, 1, 4, 11, 12]) gpeq_0)) K E Rt (some 0) env σ := by
  obtain ⟨hat1, hat'⟩ := List.getElem?_eq_some_iff.1 hat
  refine ab_block_k fun K1 h1 => ?_
  obtain ⟨i0, hi0⟩ : ∃ i0, i0 = i := ⟨_, rfl⟩
  rw [← hi0] at hK
  refine ab_loop_k (fun m env σ' => ∃ i : Nat, j + 1 - i = m ∧ i0 ≤ i ∧ PIg (fun x => !lt (G a) x) a b i j G ∧ env = [(0, slV id ver n), (1, .i .i64 a), (4, cv), (11, .i .i64 (i : Nat)), (12, .i .i64 (j : Nat))] ∧ σ' = σ) _ ⟨i, rfl, by omega, hpi, by simp [w0, w1, w4, wi, wj], rfl⟩ ?_
  clear hpi hi0 w0 w1 w4 wi wj env
  rintro m env σ' ⟨i, hm, hge, hpi, rfl, rfl⟩ K2 h2
  obtain ⟨p1, p2, p3, plo, phi⟩ := id_ hpi
  rw [gpeq_0]
  refine ab_seq_k fun K3 h3 => ?_
  refine ab_seq_k fun K4 h4 => ?_
  have han : a < n := by omega
  have hjn : j < n := by omega
  by_cases hij : i ≤ j
  · have hin : i < n := by omega
    simp [abDs_consU, drU, recheck_cons, recheck_nil, rcK, IS.dst, hij, hat, hat', hin, hjn, han, rowV_get]
    refine callv_cmp hcmp (hD _ (by omega)) (hD _ (by omega)) fun c hcc => ?_
    simp [abDs_consU, drU, recheck_cons, recheck_nil, rcK, IS.dst, hcc]
    refine h4 _ _ _ ?_
    clear h4
    cases hl : lt (G a) (G i) with
    | true =>
      refine ab_cond_of rfl (fun h => by cases h) (fun _ => ?_)
      simp
      refine h1 _ _ _ ?_
      exact hK i hge hpi (.inr (by simp [hl]))
    | false =>
      refine ab_cond_of rfl (fun _ => ?_) (fun h => by cases h)
      simp
      refine h3 _ _ _ ?_
      refine ab_block_k fun K5 h5 => ?_
      simp [wrap64 (x := (i : Int) + 1) (by omega) (by omega)]
      refine h5 _ _ _ (h2 _ _ _ (again _ (by omega) ⟨i + 1, rfl, by omega, hpi.up (by omega) (by simp [hl]), by simp, rfl⟩))
  · have hij2 : j < i := by omega
    simp [abDs_consU, drU, recheck_cons, recheck_nil, rcK, IS.dst, hij, hij2]
    refine h4 _ _ _ ?_
    refine ab_cond_of rfl (fun h => by cases h) (fun _ => ?_)
    simp
    refine h1 _ _ _ ?_
    exact hK i hge hpi (.inl (by omega))
theorem peq_dn1 (hcmp : CmpOK cv D lt) {K : Kt} {E : List (Nat × Kt)} {Rt : Kt} {n0 : Nat} {env : Env} {σ : List O} {id ver n a b i j : Nat} {G : Nat → V} (hD : ∀ k, k < n → D (G k)) (hbn : b ≤ n) (hn : n ≤ 1000000) (hat : σ[id]? = some (.row ver (rowV n G))) (w0 : get env 0 = slV id ver n) (w1 : get env 1 = .i .i64 a) (w4 : get env 4 = cv) (wi : get env 11 = .i .i64 i) (wj : get env 12 = .i .i64 j) (hpi : PIg (fun x => !lt (G a) x) a b i j G)
    (hK : ∀ j2, j2 ≤ j → PIg (fun x => !lt (G a) x) a b i j2 G → (j2 < i ∨ (fun x => !lt (G a) x) (G j2) = true) → K (some 0) [(0, slV id ver n), (1, .i .i64 a), (4, cv), (11, .i .i64 (i : Nat)), (12, .i .i64 (j2 : Nat)), (65, .b false)] σ) :
    ab Tryz.prog noY noIt n0 (.block 4 (.loop (some [0, 1, 4, 11, 12]) gpeq_1)) K E Rt (some 0) env σ := by
  obtain ⟨hat1, hat'⟩ := List.getElem?_eq_some_iff.1 hat
  refine ab_block_k fun K1 h1 => ?_
  obtain ⟨j0, hj0⟩ : ∃ j0, j0 = j := ⟨_, rfl⟩
  rw [← hj0] at hK
  refine ab_loop_k (fun m env σ' => ∃ j : Nat, j + 1 - i = m ∧ j ≤ j0 ∧ PIg (fun x => !lt (G a) x) a b i j G ∧ env = [(0, slV id ver n), (1, .i .i64 a), (4, cv), (11, .i .i64 (i : Nat)), (12, .i .i64 (j : Nat))] ∧ σ' = σ) _ ⟨j, rfl, by omega, hpi, by simp [w0, w1, w4, wi, wj], rfl⟩ ?_
  clear hpi hj0 w0 w1 w4 wi wj env
  rintro m env σ' ⟨j, hm, hge, hpi, rfl, rfl⟩ K2 h2
  obtain ⟨p1, p2, p3, plo, phi⟩ := id_ hpi
  rw [gpeq_1]
  refine ab_seq_k fun K3 h3 => ?_
  refine ab_seq_k fun K4 h4 => ?_
  have han : a < n := by omega
  have hjn : j < n := by omega
  by_cases hij : i ≤ j
  · have hin : i < n := by omega
    simp [abDs_consU, drU, recheck_cons, recheck_nil, rcK, IS.dst, hij, hat, hat', hin, hjn, han, rowV_get]
    refine callv_cmp hcmp (hD _ (by omega)) (hD _ (by omega)) fun c hcc => ?_
    simp [abDs_consU, drU, recheck_cons, recheck_nil, rcK, IS.dst, hcc]
    refine h4 _ _ _ ?_
    clear h4
    cases hl : lt (G a) (G j) with
    | true =>
      refine ab_cond_of rfl (fun _ => ?_) (fun h => by cases h)
      simp
      refine h3 _ _ _ ?_
      refine ab_block_k fun K5 h5 => ?_
      obtain ⟨j, rfl⟩ : ∃ j2, j = j2 + 1 := ⟨j - 1, by omega⟩
      simp [wrap64 (x := (j : Int)) (by omega) (by omega)]
      refine h5 _ _ _ (h2 _ _ _ (again _ (by omega) ⟨j, rfl, by omega, hpi.down (by omega) (by simp [hl]), by simp, rfl⟩))
    | false =>
      refine ab_cond_of rfl (fun h => by cases h) (fun _ => ?_)
      simp
      refine h1 _ _ _ ?_
      exact hK j hge hpi (.inr (by simp [hl]))
  · have hij2 : j < i := by omega
    simp [abDs_consU, drU, recheck_cons, recheck_nil, rcK, IS.dst, hij, hij2]
    refine h4 _ _ _ ?_
    refine ab_cond_of rfl (fun h => by cases h) (fun _ => ?_)
    simp
    refine h1 _ _ _ ?_
    exact hK j hge hpi (.inl (by omega))
end
end Go.Ab
end

section
/- The library's partitions. -/
set_option linter.unusedVariables false
set_option linter.unusedSimpArgs false
set_option maxHeartbeats 4000000
set_option maxRecDepth 100000
namespace Go.Ab
open Go Go.Proofs

section
variable {cv : V} {D : V → Prop} {lt : V → V → Bool}
theorem PIg.swap {good : V → Bool} {a b i j : Nat} {G : Nat → V} (h : PIg good a b i j G) (hij : i ≤ j) (hi : good (G i) = false) (hj : good (G j) = true) : i < j ∧ PIg good a b (i + 1) (j - 1) (swp G i j) := by
  obtain ⟨p1, p2, p3, lo, hi2⟩ := h
  have hne : i ≠ j := by
    intro e; rw [e, hj] at hi; cases hi
  refine ⟨by omega, by omega, by omega, by omega, fun k h1 h2 => ?_, fun k h1 h2 => ?_⟩
  · rw [swp_at, if_neg (by omega)]
    by_cases hk : k = i
    · rw [if_pos hk]; exact hj
    · rw [if_neg hk]; exact lo k h1 (by omega)
  · rw [swp_at]
    by_cases hk : k = j
    · rw [if_pos hk]; exact hi
    · rw [if_neg hk, if_neg (by omega)]; exact hi2 k (by omega) h2
theorem swp_off {G : Nat → V} {i j k : Nat} (h1 : k ≠ i) (h2 : k ≠ j) : swp G i j k = G k := by rw [swp_at, if_neg h2, if_neg h1]
def ParP (lt : V → V → Bool) (a b mid : Nat) (G : Nat → V) : Prop := a ≤ mid ∧ mid < b ∧ (∀ k, a ≤ k → k < mid → lt (G k) (G mid) = true) ∧ (∀ k, mid < k → k < b → lt (G k) (G mid) = false)
theorem par_end {a b i j : Nat} {G : Nat → V} (h : PIg (fun x => lt x (G a)) a b i j G) (hij : j < i) : ParP lt a b j (swp G j a) := by
  obtain ⟨p1, p2, p3, lo, hi⟩ := h
  have e : swp G j a j = G a := by
    rw [swp_at]
    by_cases hja : j = a
    · rw [if_pos hja, hja]
    · rw [if_neg hja, if_pos rfl]
  refine ⟨by omega, by omega, fun k h1 h2 => ?_, fun k h1 h2 => ?_⟩
  · rw [e, swp_at]
    by_cases hk : k = a
    · rw [if_pos hk]; exact lo j (by omega) (by omega)
    · rw [if_neg hk, if_neg (by omega)]; exact lo k (by omega) (by omega)
  · rw [e, swp_off (by omega) (by omega)]; exact hi k h1 h2

theorem par_ok {f : FuncId} {fn : Func} {ex : List Nat} (hf : Fn_ Tryz.prog f fn ex gpar grpar) (hcmp : CmpOK cv D lt) {σ : List O} {id ver n a b pv : Nat} {F : Nat → V} (hD : ∀ k, k < n → D (F k)) (hap : a ≤ pv) (hpb : pv < b) (hbn : b ≤ n) (hn : n ≤ 1000000) (hσ : σ[id]? = some (.row ver (rowV n F))) :
    FSpecQ Tryz.prog f [slV id ver n, .i .i64 a, .i .i64 b, .i .i64 pv, cv] σ (fun v σ' => ∃ (mid : Nat) (al : Bool) (G : Nat → V), v = .tup [.i .i64 mid, .b al] ∧ Sw a b F G ∧ ParP lt a b mid G ∧ DA σ id ver n G σ') := by
  obtain ⟨b, rfl⟩ : ∃ b1, b = b1 + 1 := ⟨b - 1, by omega⟩
  refine hf.specQ mixed noIt_ok ?_
  rw [gpar]
  refine ab_seq_k fun K1 h1 => ?_
  simp
  refine h1 _ _ _ ?_
  clear h1 K1
  have hat1 := (List.getElem?_eq_some_iff.1 hσ).1
  have hat' := (List.getElem?_eq_some_iff.1 hσ).2
  have han : a < n := by omega
  have hpn : pv < n := by omega
  have hs1 : ∀ c, (σ.set id c)[id]? = some c := fun c => List.getElem?_set_self hat1
  have c1 := hcmp.one _ (hD a han)
  have c2 := hcmp.one _ (hD pv hpn)
  refine ab_seq_k fun K2 h2 => ?_
  simp [abDs_consU, drU, recheck_cons, recheck_nil, rcK, IS.dst, hσ, hat', han, hpn, rowV_get, hs1, c1, c2]
  rw [rowV_swp]
  refine h2 _ _ _ ?_
  clear h2 K2
  have hsw : Sw a (b + 1) F (swp F a pv) := .one (by omega) (by omega) hap hpb
  have hda : DA σ id ver n (swp F a pv) (σ.set id (.row ver (rowV n (swp F a pv)))) := (DA.mk0 hσ).put
  refine ab_seq_k fun K3 h3 => ?_
  simp [wrap64 (x := (a : Int) + 1) (by omega) (by omega), wrap64 (x := (b : Int)) (by omega) (by omega)]
  refine h3 _ _ _ ?_
  clear h3 K3
  generalize swp F a pv = G at *
  generalize σ.set id (.row ver (rowV n G)) = σ' at *
  clear hs1 hat' hat1 c1 c2
  have hpi : PIg (fun x => lt x (G a)) a (b + 1) (a + 1) b G := ⟨by omega, by omega, by omega, fun k h1 h2 => by omega, fun k h1 h2 => by omega⟩
  -- the ends
  have hgd : ∀ {G : Nat → V}, Sw a (b + 1) F G → ∀ k, k < n → D (G k) := fun h k hk => h.alln hbn hD hk
  refine ab_seq_k fun K4 h4 => ?_
  refine par_up0 (i := a + 1) (j := b) hcmp (hgd hsw) hbn hn hda.at_ rfl rfl rfl rfl rfl hpi ?_
  intro i hi0 hpi hup
  refine h4 _ _ _ ?_
  clear h4 K4
  refine ab_seq_k fun K5 h5 => ?_
  refine par_dn1 (i := i) (j := b) hcmp (hgd hsw) hbn hn hda.at_ rfl rfl rfl rfl rfl hpi ?_
  intro j hj0 hpi hdn
  refine h5 _ _ _ ?_
  clear h5 K5
  have hend : ∀ (G : Nat → V) σ', DA σ id ver n G σ' → ∀ j : Nat, a ≤ j → j < n → j < b + 1 → Sw a (b + 1) F G → Sw a (b + 1) F (swp G j a) := fun G σ' _ j h1 _ h3 hs => .step _ _ hs h1 h3 (Nat.le_refl _) (by omega)
  refine ab_seq_k fun K6 h6 => ?_
  refine ab_seq_k fun K7 h7 => ?_
  simp
  refine h7 _ _ _ ?_
  clear h7 K7
  have hat := hda.at_
  obtain ⟨hat1, hat'⟩ := List.getElem?_eq_some_iff.1 hat
  have hs1 : ∀ c, (σ'.set id c)[id]? = some c := fun c => List.getElem?_set_self hat1
  have hjn : j < n := by have := hpi.p3; omega
  have hja : a ≤ j := by have := hpi.p1; have := hpi.p2; omega
  have c1 := hcmp.one _ (hgd hsw a han)
  have c2 := hcmp.one _ (hgd hsw j hjn)
  by_cases hij : j < i
  · have hij' : (j : Int) < i := by omega
    refine ab_cond_of rfl (fun _ => ?_) (fun h => by simp [hij] at h)
    refine ab_seq_k fun K8 h8 => ?_
    simp [abDs_consU, drU, recheck_cons, recheck_nil, rcK, IS.dst, hat, hat', han, hjn, rowV_get, hs1, c1, c2]
    rw [rowV_swp]
    refine h8 _ _ _ ?_
    refine ab_seq_k fun K9 h9 => ?_
    simp
    refine h9 _ _ _ ?_
    clear h9 K9
    simp
    refine fin_Q ?_
    simp [grpar]
    exact ⟨j, rfl, swp G j a, hend G σ' hda j hja hjn (by have := hpi.p3; omega) hsw, par_end hpi hij, hda.put⟩
  · refine ab_cond_of rfl (fun h => by simp at h; omega) (fun _ => ?_)
    simp
    refine h6 _ _ _ ?_
    clear h6 K6
    have hgi : (fun x => lt x (G a)) (G i) = false := hup.resolve_left (by omega)
    have hgj : (fun x => lt x (G a)) (G j) = true := hdn.resolve_left hij
    obtain ⟨hlt, hpi2⟩ := hpi.swap (by omega) hgi hgj
    have hin : i < n := by omega
    have c3 := hcmp.one _ (hgd hsw i hin)
    have hia : a + 1 ≤ i := hpi.p1
    have hjb : j < b + 1 := hpi.p3
    have ea : swp G i j a = G a := swp_off (by omega) (by omega)
    rw [← ea] at hpi2
    refine ab_seq_k fun K8 h8 => ?_
    simp [abDs_consU, drU, recheck_cons, recheck_nil, rcK, IS.dst, hat, hat', hin, hjn, rowV_get, hs1, c3, c2]
    rw [rowV_swp]
    refine h8 _ _ _ ?_
    clear h8 K8
    have hsw2 : Sw a (b + 1) F (swp G i j) := .step _ _ hsw (by omega) (by omega) hja hjb
    have hda2 : DA σ id ver n (swp G i j) (σ'.set id (.row ver (rowV n (swp G i j)))) := hda.put
    generalize swp G i j = H at *
    generalize σ'.set id (.row ver (rowV n H)) = σ2 at *
    obtain ⟨j, rfl⟩ : ∃ j2, j = j2 + 1 := ⟨j - 1, by omega⟩
    simp only [Nat.add_sub_cancel] at hpi2
    refine ab_seq_k fun K9 h9 => ?_
    simp [wrap64 (x := (i : Int) + 1) (by omega) (by omega)]
    refine h9 _ _ _ ?_
    clear h9 K9
    refine ab_seq_k fun K10 h10 => ?_
    simp [wrap64 (x := (j : Int)) (by omega) (by omega)]
    refine h10 _ _ _ ?_
    clear h10 K10
    clear hs1 hat' hat1 hat hda hsw hpi hup hdn c1 c2 c3 hgi hgj ea hend hij
    refine ab_seq_k fun K11 h11 => ?_
    refine ab_block_k fun K12 h12 => ?_
    refine ab_loop_k (fun m env σ' => ∃ (i j : Nat) (G : Nat → V), j + 1 - i = m ∧ env = [(0, slV id ver n), (1, .i .i64 a), (4, cv), (12, .i .i64 i), (13, .i .i64 j)] ∧ PIg (fun x => lt x (G a)) a (b + 1) i j G ∧ Sw a (b + 1) F G ∧ DA σ id ver n G σ') _ ⟨i + 1, j, H, rfl, by simp, hpi2, hsw2, hda2⟩ ?_
    clear hpi2 hsw2 hda2 hin hjn hja hia hjb hlt
    rintro m env σ' ⟨i, j, G, hm, rfl, hpi, hsw, hda⟩ K13 h13
    rw [gpar_4]
    refine ab_block_k fun K14 h14 => ?_
    refine ab_seq_k fun K15 h15 => ?_
    refine par_up2 (i := i) (j := j) hcmp (hgd hsw) hbn hn hda.at_ rfl rfl rfl rfl rfl hpi ?_
    intro i1 hi0 hpi hup
    refine h15 _ _ _ ?_
    clear h15 K15
    refine ab_seq_k fun K16 h16 => ?_
    refine par_dn3 (i := i1) (j := j) hcmp (hgd hsw) hbn hn hda.at_ rfl rfl rfl rfl rfl hpi ?_
    intro j1 hj0 hpi hdn
    refine h16 _ _ _ ?_
    clear h16 K16
    refine ab_seq_k fun K17 h17 => ?_
    refine ab_seq_k fun K18 h18 => ?_
    simp
    refine h18 _ _ _ ?_
    clear h18 K18
    have hat := hda.at_
    obtain ⟨hat1, hat'⟩ := List.getElem?_eq_some_iff.1 hat
    have hs1 : ∀ c, (σ'.set id c)[id]? = some c := fun c => List.getElem?_set_self hat1
    have hjn : j1 < n := by have := hpi.p3; omega
    have hja : a ≤ j1 := by have := hpi.p1; have := hpi.p2; omega
    have hjb : j1 < b + 1 := hpi.p3
    have hia : a + 1 ≤ i1 := hpi.p1
    have c1 := hcmp.one _ (hgd hsw a han)
    have c2 := hcmp.one _ (hgd hsw j1 hjn)
    by_cases hij : j1 < i1
    · have hij' : (j1 : Int) < i1 := by omega
      refine ab_cond_of rfl (fun _ => ?_) (fun h => by simp [hij] at h)
      simp
      refine h12 _ _ _ (h11 _ _ _ ?_)
      refine ab_seq_k fun K8 h8 => ?_
      simp [abDs_consU, drU, recheck_cons, recheck_nil, rcK, IS.dst, hat, hat', han, hjn, rowV_get, hs1, c1, c2]
      rw [rowV_swp]
      refine h8 _ _ _ ?_
      refine ab_seq_k fun K9 h9 => ?_
      simp
      refine h9 _ _ _ ?_
      clear h9 K9
      simp
      refine fin_Q ?_
      simp [grpar]
      exact ⟨j1, rfl, swp G j1 a, .step _ _ hsw hja hjb (Nat.le_refl _) (by omega), par_end hpi hij, hda.put⟩
    · refine ab_cond_of rfl (fun h => by simp at h; omega) (fun _ => ?_)
      simp
      refine h17 _ _ _ ?_
      clear h17 K17
      have hgi : (fun x => lt x (G a)) (G i1) = false := hup.resolve_left (by omega)
      have hgj : (fun x => lt x (G a)) (G j1) = true := hdn.resolve_left hij
      obtain ⟨hlt, hpi2⟩ := hpi.swap (by omega) hgi hgj
      have hin : i1 < n := by omega
      have c3 := hcmp.one _ (hgd hsw i1 hin)
      have ea : swp G i1 j1 a = G a := swp_off (by omega) (by omega)
      rw [← ea] at hpi2
      refine ab_seq_k fun K8 h8 => ?_
      simp [abDs_consU, drU, recheck_cons, recheck_nil, rcK, IS.dst, hat, hat', hin, hjn, rowV_get, hs1, c3, c2]
      rw [rowV_swp]
      refine h8 _ _ _ ?_
      clear h8 K8
      obtain ⟨j1, rfl⟩ : ∃ j2, j1 = j2 + 1 := ⟨j1 - 1, by omega⟩
      simp only [Nat.add_sub_cancel] at hpi2
      refine ab_seq_k fun K9 h9 => ?_
      simp [wrap64 (x := (i1 : Int) + 1) (by omega) (by omega)]
      refine h9 _ _ _ ?_
      clear h9 K9
      simp [wrap64 (x := (j1 : Int)) (by omega) (by omega)]
      refine h14 _ _ _ (h13 _ _ _ (again _ ?_ ⟨i1 + 1, j1, swp G i1 (j1 + 1), rfl, by simp, hpi2, .step _ _ hsw (by omega) (by omega) hja hjb, hda.put⟩))
      omega
end
end Go.Ab
end

section
/- The library's partition by equal elements. -/
set_option linter.unusedVariables false
set_option linter.unusedSimpArgs false
set_option maxHeartbeats 4000000
set_option maxRecDepth 100000
namespace Go.Ab
open Go Go.Proofs

section
variable {cv : V} {D : V → Prop} {lt : V → V → Bool}
theorem peq_ok {f : FuncId} {fn : Func} {ex : List Nat} (hf : Fn_ Tryz.prog f fn ex gpeq grpeq) (hcmp : CmpOK cv D lt) {σ : List O} {id ver n a b pv : Nat} {F : Nat → V} (hD : ∀ k, k < n → D (F k)) (hap : a ≤ pv) (hpb : pv < b) (hbn : b ≤ n) (hn : n ≤ 1000000) (hσ : σ[id]? = some (.row ver (rowV n F))) :
    FSpecQ Tryz.prog f [slV id ver n, .i .i64 a, .i .i64 b, .i .i64 pv, cv] σ (fun v σ' => ∃ (mid : Nat) (G : Nat → V), v = .i .i64 mid ∧ Sw a b F G ∧ G a = F pv ∧ a < mid ∧ mid ≤ b ∧ (∀ k, a < k → k < mid → lt (G a) (G k) = false) ∧ (∀ k, mid ≤ k → k < b → lt (G a) (G k) = true) ∧ DA σ id ver n G σ') := by
  obtain ⟨b, rfl⟩ : ∃ b1, b = b1 + 1 := ⟨b - 1, by omega⟩
  refine hf.specQ mixed noIt_ok ?_
  rw [gpeq]
  refine ab_seq_k fun K1 h1 => ?_
  simp
  refine h1 _ _ _ ?_
  clear h1 K1
  have hat1 := (List.getElem?_eq_some_iff.1 hσ).1
  have hat' := (List.getElem?_eq_some_iff.1 hσ).2
  have han : a < n := by omega
  have hpn : pv < n := by omega
  have hs1 : ∀ c, (σ.set id c)[id]? = some c := fun c => List.getElem?_set_self hat1
  have c1 := hcmp.one _ (hD a han)
  have c2 := hcmp.one _ (hD pv hpn)
  refine ab_seq_k fun K2 h2 => ?_
  simp [abDs_consU, drU, recheck_cons, recheck_nil, rcK, IS.dst, hσ, hat', han, hpn, rowV_get, hs1, c1, c2]
  rw [rowV_swp]
  refine h2 _ _ _ ?_
  clear h2 K2
  have hsw : Sw a (b + 1) F (swp F a pv) := .one (by omega) (by omega) hap hpb
  have hda : DA σ id ver n (swp F a pv) (σ.set id (.row ver (rowV n (swp F a pv)))) := (DA.mk0 hσ).put
  have hga : swp F a pv a = F pv := by
    rw [swp_at]
    by_cases h : a = pv
    · rw [if_pos h, h]
    · rw [if_neg h, if_pos rfl]
  refine ab_seq_k fun K3 h3 => ?_
  simp [wrap64 (x := (a : Int) + 1) (by omega) (by omega), wrap64 (x := (b : Int)) (by omega) (by omega)]
  refine h3 _ _ _ ?_
  clear h3 K3
  generalize swp F a pv = G at *
  generalize σ.set id (.row ver (rowV n G)) = σ' at *
  clear hs1 hat' hat1 c1 c2
  have hpi : PIg (fun x => !lt (G a) x) a (b + 1) (a + 1) b G := ⟨by omega, by omega, by omega, fun k h1 h2 => by omega, fun k h1 h2 => by omega⟩
  have hgd : ∀ {G : Nat → V}, Sw a (b + 1) F G → ∀ k, k < n → D (G k) := fun h k hk => h.alln hbn hD hk
  refine ab_seq_k fun K11 h11 => ?_
  refine ab_block_k fun K12 h12 => ?_
  refine ab_loop_k (fun m env σ' => ∃ (i j : Nat) (G : Nat → V), j + 1 - i = m ∧ env = [(0, slV id ver n), (1, .i .i64 a), (4, cv), (11, .i .i64 i), (12, .i .i64 j)] ∧ PIg (fun x => !lt (G a) x) a (b + 1) i j G ∧ Sw a (b + 1) F G ∧ G a = F pv ∧ DA σ id ver n G σ') _ ⟨a + 1, b, G, rfl, by simp, hpi, hsw, hga, hda⟩ ?_
  clear hpi hsw hda hga
  rintro m env σ' ⟨i, j, G, hm, rfl, hpi, hsw, hga, hda⟩ K13 h13
  rw [gpeq_2]
  refine ab_block_k fun K14 h14 => ?_
  refine ab_seq_k fun K15 h15 => ?_
  refine peq_up0 (i := i) (j := j) hcmp (hgd hsw) hbn hn hda.at_ rfl rfl rfl rfl rfl hpi ?_
  intro i1 hi0 hpi hup
  refine h15 _ _ _ ?_
  clear h15 K15
  refine ab_seq_k fun K16 h16 => ?_
  refine peq_dn1 (i := i1) (j := j) hcmp (hgd hsw) hbn hn hda.at_ rfl rfl rfl rfl rfl hpi ?_
  intro j1 hj0 hpi hdn
  refine h16 _ _ _ ?_
  clear h16 K16
  refine ab_seq_k fun K17 h17 => ?_
  refine ab_seq_k fun K18 h18 => ?_
  simp
  refine h18 _ _ _ ?_
  clear h18 K18
  have hat := hda.at_
  obtain ⟨hat1, hat'⟩ := List.getElem?_eq_some_iff.1 hat
  have hs1 : ∀ c, (σ'.set id c)[id]? = some c := fun c => List.getElem?_set_self hat1
  have hjn : j1 < n := by have := hpi.p3; omega
  have hja : a ≤ j1 := by have := hpi.p1; have := hpi.p2; omega
  have hjb : j1 < b + 1 := hpi.p3
  have hia : a + 1 ≤ i1 := hpi.p1
  have c2 := hcmp.one _ (hgd hsw j1 hjn)
  by_cases hij : j1 < i1
  · have hij' : (j1 : Int) < i1 := by omega
    refine ab_cond_of rfl (fun _ => ?_) (fun h => by simp [hij] at h)
    simp
    refine h12 _ _ _ (h11 _ _ _ ?_)
    refine ab_seq_k fun K9 h9 => ?_
    simp
    refine h9 _ _ _ ?_
    clear h9 K9
    simp
    refine fin_Q ?_
    simp [grpeq]
    exact ⟨i1, rfl, G, hsw, hga, by omega, by have := hpi.p2; omega, fun k h1 h2 => by have := hpi.lo k (by omega) h2; simpa using this, fun k h1 h2 => by have := hpi.hi k (by omega) h2; simpa using this, hda⟩
  · refine ab_cond_of rfl (fun h => by simp at h; omega) (fun _ => ?_)
    simp
    refine h17 _ _ _ ?_
    clear h17 K17
    have hgi : (fun x => !lt (G a) x) (G i1) = false := hup.resolve_left (by omega)
    have hgj : (fun x => !lt (G a) x) (G j1) = true := hdn.resolve_left hij
    obtain ⟨hlt, hpi2⟩ := hpi.swap (by omega) hgi hgj
    have hin : i1 < n := by omega
    have c3 := hcmp.one _ (hgd hsw i1 hin)
    have ea : swp G i1 j1 a = G a := swp_off (by omega) (by omega)
    have hga2 : swp G i1 j1 a = F pv := ea.trans hga
    rw [← ea] at hpi2
    refine ab_seq_k fun K8 h8 => ?_
    simp [abDs_consU, drU, recheck_cons, recheck_nil, rcK, IS.dst, hat, hat', hin, hjn, rowV_get, hs1, c3, c2]
    rw [rowV_swp]
    refine h8 _ _ _ ?_
    clear h8 K8
    obtain ⟨j1, rfl⟩ : ∃ j2, j1 = j2 + 1 := ⟨j1 - 1, by omega⟩
    simp only [Nat.add_sub_cancel] at hpi2
    refine ab_seq_k fun K9 h9 => ?_
    simp [wrap64 (x := (i1 : Int) + 1) (by omega) (by omega)]
    refine h9 _ _ _ ?_
    clear h9 K9
    simp [wrap64 (x := (j1 : Int)) (by omega) (by omega)]
    refine h14 _ _ _ (h13 _ _ _ (again _ ?_ ⟨i1 + 1, j1, swp G i1 (j1 + 1), rfl, by simp, hpi2, .step _ _ hsw (by omega) (by omega) hja hjb, hga2, hda.put⟩))
    omega
end
end Go.Ab
end
