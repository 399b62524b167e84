import Derived.Test.YtgndegccjhdmmaaGreatKB
/-! KG: made of KG KH KI -/
section
/- The library's partial insertion sort. -/
set_option linter.unusedVariables false
set_option linter.unusedSimpArgs false
set_option maxHeartbeats 4000000
set_option maxRecDepth 100000
namespace Go.Ab
open Go Go.Proofs

section
variable {cv : V} {D : V → Prop} {lt : V → V → Bool}
theorem Srt.snoc (hcmp : CmpOK cv D lt) {a i : Nat} {G : Nat → V} (h : Srt lt a i G) (hD : ∀ k, k ≤ i → D (G k)) (hai : a + 1 ≤ i) (hl : lt (G i) (G (i - 1)) = false) : Srt lt a (i + 1) G := by
  intro p q h1 h2 h3
  by_cases hq : q = i
  · subst hq
    by_cases hp : p = q - 1
    · rw [hp]; exact hl
    · exact hcmp.ntr _ (G (q - 1)) _ (hD q (by omega)) (hD (q - 1) (by omega)) (hD p (by omega)) hl (h p (q - 1) h1 (by omega) (by omega))
  · exact h p q h1 h2 (by omega)
theorem swp_off' {G : Nat → V} {i j k : Nat} (h1 : k ≠ i) (h2 : k ≠ j) : swp G i j k = G k := by rw [swp_at, if_neg h2, if_neg h1]
theorem Srt.congr {a b : Nat} {F G : Nat → V} (h : Srt lt a b F) (e : ∀ k, a ≤ k → k < b → G k = F k) : Srt lt a b G := by
  intro p q h1 h2 h3
  rw [e p h1 (by omega), e q (by omega) h3]
  exact h p q h1 h2 h3

theorem pis_0 (hcmp : CmpOK cv D lt) {K : Kt} {E : List (Nat × Kt)} {Rt : Kt} {n0 : Nat} {env : Env} {σ : List O} {id ver n a b i c : Nat} {G : Nat → V} (hD : ∀ k, k < n → D (G k)) (hbn : b ≤ n) (hn : n ≤ 1000000) (hat : σ[id]? = some (.row ver (rowV n G))) (w0 : get env 0 = slV id ver n) (w1 : get env 1 = .i .i64 a) (w2 : get env 2 = .i .i64 b) (w3 : get env 3 = cv) (w9 : get env 9 = .i .i64 i) (w10 : get env 10 = .i .i64 c) (hai : a + 1 ≤ i) (hib : i ≤ b) (hs : Srt lt a i G)
    (hK : ∀ i2, a + 1 ≤ i2 → i2 ≤ b → Srt lt a i2 G → (i2 < b → lt (G i2) (G (i2 - 1)) = true) → K (some 0) [(0, slV id ver n), (1, .i .i64 a), (2, .i .i64 b), (3, cv), (9, .i .i64 (i2 : Nat)), (10, .i .i64 c), (36, .b false)] σ) :
    ab Tryz.prog noY noIt n0 (.block 2 (.loop (some [0, 1, 2, 3, 9, 10]) gpis_0)) K E Rt (some 0) env σ := by
  obtain ⟨hat1, hat'⟩ := List.getElem?_eq_some_iff.1 hat
  refine ab_block_k fun K1 h1 => ?_
  refine ab_loop_k (fun m env σ' => ∃ i : Nat, b - i = m ∧ a + 1 ≤ i ∧ i ≤ b ∧ Srt lt a i G ∧ env = [(0, slV id ver n), (1, .i .i64 a), (2, .i .i64 b), (3, cv), (9, .i .i64 i), (10, .i .i64 c)] ∧ σ' = σ) _ ⟨i, rfl, hai, hib, hs, by simp [w0, w1, w2, w3, w9, w10], rfl⟩ ?_
  clear hs hai hib w0 w1 w2 w3 w9 w10 env
  rintro m env σ' ⟨i, hm, hai, hib, hs, rfl, rfl⟩ K2 h2
  rw [gpis_0]
  refine ab_seq_k fun K3 h3 => ?_
  refine ab_seq_k fun K4 h4 => ?_
  obtain ⟨i, rfl⟩ : ∃ i2, i = i2 + 1 := ⟨i - 1, by omega⟩
  by_cases hij : i + 1 < b
  · have hin : i + 1 < n := by omega
    have hin' : i < n := by omega
    have z0 : (i : Int) + 1 < b := by omega
    have z1 : (0 : Int) ≤ (i : Int) + 1 := by omega
    have z2 : (i : Int) + 1 < n := by omega
    have z3 : (i : Int) < n := by omega
    have zj := wrap64 (x := (i : Int)) (by omega) (by omega)
    simp [abDs_consU, drU, recheck_cons, recheck_nil, rcK, IS.dst, z0, z1, z2, z3, zj, hat, hat', hin, hin', rowV_get]
    refine callv_cmp hcmp (hD _ hin) (hD _ hin') fun c hcc => ?_
    simp [abDs_consU, drU, recheck_cons, recheck_nil, rcK, IS.dst, hcc]
    refine h4 _ _ _ ?_
    clear h4
    cases hl : lt (G (i + 1)) (G i) with
    | false =>
      refine ab_cond_of rfl (fun _ => ?_) (fun h => by cases h)
      simp
      refine h3 _ _ _ ?_
      refine ab_block_k fun K5 h5 => ?_
      simp [wrap64 (x := (i : Int) + 1 + 1) (by omega) (by omega)]
      refine h5 _ _ _ (h2 _ _ _ (again _ ?_ ⟨i + 1 + 1, rfl, by omega, by omega, hs.snoc hcmp (fun k hk => hD k (by omega)) hai hl, by simp, rfl⟩))
      omega
    | true =>
      refine ab_cond_of rfl (fun h => by cases h) (fun _ => ?_)
      simp
      refine h1 _ _ _ ?_
      exact hK (i + 1) hai hib hs (fun _ => hl)
  · have z0 : ¬ (i : Int) + 1 < b := by omega
    simp [abDs_consU, drU, recheck_cons, recheck_nil, rcK, IS.dst, z0]
    refine h4 _ _ _ ?_
    refine ab_cond_of rfl (fun h => by cases h) (fun _ => ?_)
    simp
    refine h1 _ _ _ ?_
    exact hK (i + 1) hai hib hs (fun h => absurd h hij)

theorem pis_1 (hcmp : CmpOK cv D lt) {K : Kt} {E : List (Nat × Kt)} {Rt : Kt} {n0 : Nat} {env : Env} {σ0 σ : List O} {id ver n a b i c : Nat} {F G : Nat → V} (hD : ∀ k, k < n → D (F k)) (hbn : b ≤ n) (hn : n ≤ 1000000) (hib : i + 1 < b) (hai : a + 1 ≤ i + 1) (hleft : a = 0 ∨ ∀ k, a ≤ k → k < b → lt (F k) (F (a - 1)) = false)
    (hda : DA σ0 id ver n G σ) (hsw : Sw a b F G) (hin : InsI lt a i i G) (w0 : get env 0 = slV id ver n) (w1 : get env 1 = .i .i64 a) (w2 : get env 2 = .i .i64 b) (w3 : get env 3 = cv) (w9 : get env 9 = .i .i64 ((i + 1 : Nat) : Int)) (w10 : get env 10 = .i .i64 c) (w11 : get env 11 = .i .i64 i)
    (hK : ∀ env G σ, get env 0 = slV id ver n → get env 1 = .i .i64 a → get env 2 = .i .i64 b → get env 3 = cv → get env 9 = .i .i64 ((i + 1 : Nat) : Int) → get env 10 = .i .i64 c → DA σ0 id ver n G σ → Sw a b F G → Srt lt a (i + 1) G → K (some 0) env σ) :
    ab Tryz.prog noY noIt n0 (.block 4 (.loop (some [0, 1, 2, 3, 9, 10, 11]) gpis_1)) K E Rt (some 0) env σ := by
  refine ab_block_k fun K1 h1 => ?_
  refine ab_loop_k (fun m env σ => ∃ (j : Nat) (G : Nat → V), j = m ∧ a ≤ j ∧ j ≤ i ∧ env = [(0, slV id ver n), (1, .i .i64 a), (2, .i .i64 b), (3, cv), (9, .i .i64 ((i + 1 : Nat) : Int)), (10, .i .i64 c), (11, .i .i64 j)] ∧ DA σ0 id ver n G σ ∧ Sw a b F G ∧ InsI lt a i j G) i ⟨i, G, rfl, by omega, Nat.le_refl _, by simp [w0, w1, w2, w3, w9, w10, w11], hda, hsw, hin⟩ ?_
  clear hda hsw hin w0 w1 w2 w3 w9 w10 w11 env
  rintro m env σ ⟨j, G, rfl, j1, j2, rfl, hda, hsw, hin⟩ K2 h2
  have hat := hda.at_
  obtain ⟨hat1, hat'⟩ := List.getElem?_eq_some_iff.1 hat
  have hGD := fun k hk => hsw.alln hbn hD (k := k) hk
  rw [gpis_1]
  refine ab_seq_k fun K3 h3 => ?_
  refine ab_seq_k fun K4 h4 => ?_
  simp
  refine h4 _ _ _ ?_
  clear h4
  by_cases hj0 : j = 0
  · refine ab_cond_of rfl (fun h => by simp [hj0] at h) (fun _ => ?_)
    simp
    refine h1 _ _ _ ?_
    exact hK _ G _ rfl rfl rfl rfl rfl rfl hda hsw (ins_done hcmp (fun k hk => hGD k (by omega)) hin j2 (fun h => by omega))
  obtain ⟨j, rfl⟩ : ∃ j2, j = j2 + 1 := ⟨j - 1, by omega⟩
  refine ab_cond_of rfl (fun _ => ?_) (fun h => by simp at h; omega)
  simp
  refine h3 _ _ _ ?_
  clear h3
  refine ab_seq_k fun K5 h5 => ?_
  refine ab_block_k fun K6 h6 => ?_
  refine ab_seq_k fun K7 h7 => ?_
  refine ab_seq_k fun K8 h8 => ?_
  have hjn : j + 1 < n := by omega
  have hjn' : j < n := by omega
  have z1 : (0 : Int) ≤ (j : Int) + 1 := by omega
  have z2 : (j : Int) + 1 < n := by omega
  have z3 : (j : Int) < n := by omega
  have zj := wrap64 (x := (j : Int)) (by omega) (by omega)
  have c1 := hcmp.one _ (hGD _ hjn)
  have c2 := hcmp.one _ (hGD _ hjn')
  have hs1 : ∀ c, (σ.set id c)[id]? = some c := fun c => List.getElem?_set_self hat1
  simp [abDs_consU, drU, recheck_cons, recheck_nil, rcK, IS.dst, z1, z2, z3, zj, hat, hat', hjn, hjn', rowV_get]
  refine callv_cmp hcmp (hGD _ hjn) (hGD _ hjn') fun c hcc => ?_
  simp [abDs_consU, drU, recheck_cons, recheck_nil, rcK, IS.dst, hcc]
  refine h8 _ _ _ ?_
  clear h8
  cases hl : lt (G (j + 1)) (G j) with
  | false =>
    refine ab_cond_of rfl (fun _ => ?_) (fun h => by cases h)
    simp
    refine h1 _ _ _ ?_
    exact hK _ G _ rfl rfl rfl rfl rfl rfl hda hsw (ins_done hcmp (fun k hk => hGD k (by omega)) hin j2 (fun _ => hl))
  | true =>
    have hja : a ≤ j := by
      false_or_by_contra
      have hje : a = j + 1 := by omega
      rcases hleft with h0 | hlf
      · omega
      · have e1 : G j = F (a - 1) := by rw [hsw.out (by omega), hje]; rfl
        have e2 := hsw.all (p := fun x => lt x (F (a - 1)) = false) hlf (k := j + 1) (by omega) (by omega)
        rw [e1] at hl
        rw [hl] at e2
        cases e2
    refine ab_cond_of rfl (fun h => by cases h) (fun _ => ?_)
    simp
    refine h7 _ _ _ ?_
    simp [abDs_consU, drU, recheck_cons, recheck_nil, rcK, IS.dst, z1, z2, z3, zj, hat, hat', hjn, hjn', rowV_get, hs1, c1, c2]
    rw [rowV_swp]
    refine h6 _ _ _ (h5 _ _ _ ?_)
    simp [zj]
    refine h2 _ _ _ (again j (by omega) ⟨j, swp G (j + 1) j, rfl, hja, by omega, by simp [zj], hda.put, .step _ _ hsw (by omega) (by omega) (by omega) (by omega), ins_step hcmp (fun k hk => hGD k (by omega)) hin hja j2 hl⟩)

theorem pis_2 (hcmp : CmpOK cv D lt) {K : Kt} {E : List (Nat × Kt)} {Rt : Kt} {n0 : Nat} {env : Env} {σ0 σ : List O} {id ver n a b i c : Nat} {F G : Nat → V} (hD : ∀ k, k < n → D (F k)) (hbn : b ≤ n) (hn : n ≤ 1000000) (hib : i + 1 < b) (hai : a ≤ i)
    (hda : DA σ0 id ver n G σ) (hsw : Sw a b F G) (hso : Srt lt a i G) (w0 : get env 0 = slV id ver n) (w1 : get env 1 = .i .i64 a) (w2 : get env 2 = .i .i64 b) (w3 : get env 3 = cv) (w9 : get env 9 = .i .i64 i) (w10 : get env 10 = .i .i64 c) (w12 : get env 12 = .i .i64 ((i + 1 : Nat) : Int))
    (hK : ∀ env G σ, get env 0 = slV id ver n → get env 1 = .i .i64 a → get env 2 = .i .i64 b → get env 3 = cv → get env 9 = .i .i64 i → get env 10 = .i .i64 c → DA σ0 id ver n G σ → Sw a b F G → Srt lt a i G → K (some 0) env σ) :
    ab Tryz.prog noY noIt n0 (.block 6 (.loop (some [0, 1, 2, 3, 9, 10, 12]) gpis_2)) K E Rt (some 0) env σ := by
  refine ab_block_k fun K1 h1 => ?_
  refine ab_loop_k (fun m env σ => ∃ (j : Nat) (G : Nat → V), b - j = m ∧ i ≤ j ∧ j + 1 ≤ b ∧ env = [(0, slV id ver n), (1, .i .i64 a), (2, .i .i64 b), (3, cv), (9, .i .i64 i), (10, .i .i64 c), (12, .i .i64 ((j + 1 : Nat) : Int))] ∧ DA σ0 id ver n G σ ∧ Sw a b F G ∧ Srt lt a i G) _ ⟨i, G, rfl, by omega, by omega, by simp [w0, w1, w2, w3, w9, w10, w12], hda, hsw, hso⟩ ?_
  clear hda hsw hso w0 w1 w2 w3 w9 w10 w12 env
  rintro m env σ ⟨j, G, hm, j1, j2, rfl, hda, hsw, hso⟩ K2 h2
  have hat := hda.at_
  obtain ⟨hat1, hat'⟩ := List.getElem?_eq_some_iff.1 hat
  have hGD := fun k hk => hsw.alln hbn hD (k := k) hk
  rw [gpis_2]
  refine ab_seq_k fun K3 h3 => ?_
  refine ab_seq_k fun K4 h4 => ?_
  simp
  refine h4 _ _ _ ?_
  clear h4
  by_cases hjb : j + 1 < b
  · have z0 : (j : Int) + 1 < b := by omega
    refine ab_cond_of rfl (fun _ => ?_) (fun h => by simp [z0] at h)
    simp
    refine h3 _ _ _ ?_
    clear h3
    refine ab_seq_k fun K5 h5 => ?_
    refine ab_block_k fun K6 h6 => ?_
    refine ab_seq_k fun K7 h7 => ?_
    refine ab_seq_k fun K8 h8 => ?_
    have hjn : j + 1 < n := by omega
    have hjn' : j < n := by omega
    have z1 : (0 : Int) ≤ (j : Int) + 1 := by omega
    have z2 : (j : Int) + 1 < n := by omega
    have z3 : (j : Int) < n := by omega
    have zj := wrap64 (x := (j : Int)) (by omega) (by omega)
    have c1 := hcmp.one _ (hGD _ hjn)
    have c2 := hcmp.one _ (hGD _ hjn')
    have hs1 : ∀ c, (σ.set id c)[id]? = some c := fun c => List.getElem?_set_self hat1
    simp [abDs_consU, drU, recheck_cons, recheck_nil, rcK, IS.dst, z1, z2, z3, zj, hat, hat', hjn, hjn', rowV_get]
    refine callv_cmp hcmp (hGD _ hjn) (hGD _ hjn') fun c hcc => ?_
    simp [abDs_consU, drU, recheck_cons, recheck_nil, rcK, IS.dst, hcc]
    refine h8 _ _ _ ?_
    clear h8
    cases hl : lt (G (j + 1)) (G j) with
    | false =>
      refine ab_cond_of rfl (fun _ => ?_) (fun h => by cases h)
      simp
      refine h1 _ _ _ ?_
      exact hK _ G _ rfl rfl rfl rfl rfl rfl hda hsw hso
    | true =>
      refine ab_cond_of rfl (fun h => by cases h) (fun _ => ?_)
      simp
      refine h7 _ _ _ ?_
      simp [abDs_consU, drU, recheck_cons, recheck_nil, rcK, IS.dst, z1, z2, z3, zj, hat, hat', hjn, hjn', rowV_get, hs1, c1, c2]
      rw [rowV_swp]
      refine h6 _ _ _ (h5 _ _ _ ?_)
      simp [wrap64 (x := (j : Int) + 1 + 1) (by omega) (by omega)]
      refine h2 _ _ _ (again _ ?_ ⟨j + 1, swp G (j + 1) j, rfl, by omega, by omega, by simp, hda.put, .step _ _ hsw (by omega) (by omega) (by omega) (by omega), hso.congr fun k h1 h2 => swp_off' (by omega) (by omega)⟩)
      omega
  · refine ab_cond_of rfl (fun h => by simp at h; omega) (fun _ => ?_)
    simp
    refine h1 _ _ _ ?_
    exact hK _ G _ rfl rfl rfl rfl rfl rfl hda hsw hso

theorem pis_ok {f : FuncId} {fn : Func} {ex : List Nat} (hf : Fn_ Tryz.prog f fn ex gpis grpis) (hcmp : CmpOK cv D lt) {σ : List O} {id ver n a b : Nat} {F : Nat → V} (hD : ∀ k, k < n → D (F k)) (hab : a < b) (hbn : b ≤ n) (hn : n ≤ 1000000) (hσ : σ[id]? = some (.row ver (rowV n F))) (hleft : a = 0 ∨ ∀ k, a ≤ k → k < b → lt (F k) (F (a - 1)) = false) :
    FSpecQ Tryz.prog f [slV id ver n, .i .i64 a, .i .i64 b, cv] σ (fun v σ' => ∃ (r : Bool) (G : Nat → V), v = .b r ∧ Sw a b F G ∧ (r = true → Srt lt a b G) ∧ DA σ id ver n G σ') := by
  refine hf.specQ mixed noIt_ok ?_
  rw [gpis]
  refine ab_seq_k fun K1 h1 => ?_
  simp
  refine h1 _ _ _ ?_
  clear h1 K1
  refine ab_seq_k fun K2 h2 => ?_
  simp [wrap64 (x := (a : Int) + 1) (by omega) (by omega)]
  refine h2 _ _ _ ?_
  clear h2 K2
  refine ab_seq_k fun K3 h3 => ?_
  refine ab_seq_k fun K4 h4 => ?_
  simp
  refine h4 _ _ _ ?_
  clear h4 K4
  refine ab_block_k fun K5 h5 => ?_
  refine ab_loop_k (fun m env σ' => ∃ (i c : Nat) (G : Nat → V), c + m = 5 ∧ a + 1 ≤ i ∧ i ≤ b ∧ env = [(0, slV id ver n), (1, .i .i64 a), (2, .i .i64 b), (3, cv), (9, .i .i64 i), (10, .i .i64 c)] ∧ Srt lt a i G ∧ Sw a b F G ∧ DA σ id ver n G σ') 5 ⟨a + 1, 0, F, rfl, by omega, by omega, by simp, fun p q _ _ _ => by omega, .refl F, DA.mk0 hσ⟩ ?_
  rintro m env σ' ⟨i, c, G, hm, hai, hib, rfl, hso, hsw, hda⟩ K6 h6
  rw [gpis_3]
  refine ab_seq_k fun K7 h7 => ?_
  refine ab_seq_k fun K8 h8 => ?_
  simp
  refine h8 _ _ _ ?_
  clear h8 K8
  by_cases hc5 : c < 5
  · refine ab_cond_of rfl (fun _ => ?_) (fun h => by simp at h; omega)
    simp
    refine h7 _ _ _ ?_
    clear h7 K7
    refine ab_seq_k fun K9 h9 => ?_
    refine ab_block_k fun K10 h10 => ?_
    refine ab_seq_k fun K11 h11 => ?_
    have hGD := fun k hk => hsw.alln hbn hD (k := k) hk
    refine pis_0 (i := i) (c := c) hcmp hGD hbn hn hda.at_ rfl rfl rfl rfl rfl rfl hai hib hso ?_
    clear hso hai hib i
    intro i hai hib hso hlt
    refine h11 _ _ _ ?_
    clear h11 K11
    refine ab_seq_k fun K12 h12 => ?_
    refine ab_seq_k fun K13 h13 => ?_
    simp
    refine h13 _ _ _ ?_
    clear h13 K13
    by_cases hie : i = b
    · refine ab_cond_of rfl (fun _ => ?_) (fun h => by simp [hie] at h)
      refine ab_seq_k fun K14 h14 => ?_
      simp
      refine h14 _ _ _ ?_
      clear h14 K14
      simp
      refine fin_Q ?_
      simp [grpis]
      exact ⟨G, hsw, by rw [← hie]; exact hso, hda⟩
    refine ab_cond_of rfl (fun h => by simp at h; omega) (fun _ => ?_)
    simp
    refine h12 _ _ _ ?_
    clear h12 K12
    refine ab_seq_k fun K15 h15 => ?_
    refine ab_seq_k fun K16 h16 => ?_
    simp [wrap64 (x := (b : Int) - a) (by omega) (by omega)]
    refine h16 _ _ _ ?_
    clear h16 K16
    by_cases h50 : (b : Int) - a < 50
    · refine ab_cond_of rfl (fun _ => ?_) (fun h => by simp [h50] at h)
      refine ab_seq_k fun K14 h14 => ?_
      simp
      refine h14 _ _ _ ?_
      clear h14 K14
      simp
      refine fin_Q ?_
      simp [grpis]
      exact ⟨G, hsw, hda⟩
    refine ab_cond_of rfl (fun h => by simp [h50] at h) (fun _ => ?_)
    simp
    refine h15 _ _ _ ?_
    clear h15 K15
    obtain ⟨i, rfl⟩ : ∃ i2, i = i2 + 1 := ⟨i - 1, by omega⟩
    have hl := hlt (by omega)
    simp only [Nat.add_sub_cancel] at hl
    have hin : i + 1 < n := by omega
    have hin' : i < n := by omega
    have z1 : (0 : Int) ≤ (i : Int) + 1 := by omega
    have z2 : (i : Int) + 1 < n := by omega
    have z3 : (i : Int) < n := by omega
    have zj := wrap64 (x := (i : Int)) (by omega) (by omega)
    have c1 := hcmp.one _ (hGD _ hin)
    have c2 := hcmp.one _ (hGD _ hin')
    have hat := hda.at_
    obtain ⟨hat1, hat'⟩ := List.getElem?_eq_some_iff.1 hat
    have hs1 : ∀ c, (σ'.set id c)[id]? = some c := fun c => List.getElem?_set_self hat1
    refine ab_seq_k fun K17 h17 => ?_
    simp [abDs_consU, drU, recheck_cons, recheck_nil, rcK, IS.dst, z1, z2, z3, zj, hat, hat', hin, hin', rowV_get, hs1, c1, c2]
    rw [rowV_swp]
    refine h17 _ _ _ ?_
    clear h17 K17
    have hsw2 : Sw a b F (swp G (i + 1) i) := .step _ _ hsw (by omega) (by omega) (by omega) (by omega)
    have hda2 : DA σ id ver n (swp G (i + 1) i) (σ'.set id (.row ver (rowV n (swp G (i + 1) i)))) := hda.put
    have hin2 : InsI lt a i i (swp G (i + 1) i) := fun p q h1 h2 h3 h4 => by
      rw [swp_off' (by omega) (by omega), swp_off' (by omega) (by omega)]
      exact hso p q h1 h2 (by omega)
    generalize swp G (i + 1) i = H at *
    generalize σ'.set id (.row ver (rowV n H)) = σ2 at *
    clear hs1 hat' hat1 hat hda hsw hso hl hlt c1 c2 G hGD
    have hend : ∀ env G σ', get env 0 = slV id ver n → get env 1 = .i .i64 a → get env 2 = .i .i64 b → get env 3 = cv → get env 9 = .i .i64 ((i + 1 : Nat) : Int) → get env 10 = .i .i64 c → DA σ id ver n G σ' → Sw a b F G → Srt lt a (i + 1) G → K10 (some 0) env σ' := by
      intro env G σ' w0 w1 w2 w3 w9 w10 a1 a2 a3
      refine h10 _ _ _ (h9 _ _ _ ?_)
      simp [w0, w1, w2, w3, w9, w10, wrap64 (x := (c : Int) + 1) (by omega) (by omega)]
      exact h6 _ _ _ (again (m - 1) (by omega) ⟨i + 1, c + 1, G, by omega, hai, hib, by simp, a3, a2, a1⟩)
    clear h9 h10 h6
    refine ab_seq_k fun K18 h18 => ?_
    have hK18 : ∀ env G σ', get env 0 = slV id ver n → get env 1 = .i .i64 a → get env 2 = .i .i64 b → get env 3 = cv → get env 9 = .i .i64 ((i + 1 : Nat) : Int) → get env 10 = .i .i64 c → DA σ id ver n G σ' → Sw a b F G → Srt lt a (i + 1) G → K18 (some 0) env σ' := by
      intro env G σ' w0 w1 w2 w3 w9 w10 a1 a2 a3
      refine h18 _ _ _ ?_
      clear h18
      refine ab_seq_k fun K19 h19 => ?_
      simp [w0, w1, w2, w3, w9, w10, wrap64 (x := (b : Int) - ((i : Int) + 1)) (by omega) (by omega)]
      refine h19 _ _ _ ?_
      by_cases hb2 : 2 ≤ (b : Int) - ((i : Int) + 1)
      · refine ab_cond_of rfl (fun _ => ?_) (fun h => by simp [hb2] at h)
        refine ab_seq_k fun K20 h20 => ?_
        simp [wrap64 (x := (i : Int) + 1 + 1) (by omega) (by omega)]
        refine h20 _ _ _ ?_
        exact pis_2 (i := i + 1) (c := c) hcmp hD hbn hn (by omega) (by omega) a1 a2 a3 rfl rfl rfl rfl rfl rfl rfl hend
      · refine ab_cond_of rfl (fun h => by simp [hb2] at h) (fun _ => ?_)
        simp
        exact hend _ G _ rfl rfl rfl rfl rfl rfl a1 a2 a3
    clear h18 hend
    refine ab_seq_k fun K21 h21 => ?_
    simp [wrap64 (x := (i : Int) + 1 - a) (by omega) (by omega)]
    refine h21 _ _ _ ?_
    by_cases ha2 : 2 ≤ (i : Int) + 1 - a
    · refine ab_cond_of rfl (fun _ => ?_) (fun h => by simp [ha2] at h)
      refine ab_seq_k fun K22 h22 => ?_
      simp [zj]
      refine h22 _ _ _ ?_
      exact pis_1 (i := i) (c := c) hcmp hD hbn hn (by omega) hai hleft hda2 hsw2 hin2 rfl rfl rfl rfl rfl rfl rfl hK18
    · refine ab_cond_of rfl (fun h => by simp [ha2] at h) (fun _ => ?_)
      simp
      exact hK18 _ H _ rfl rfl rfl rfl rfl rfl hda2 hsw2 (fun p q h1 h2 h3 => by omega)
  · refine ab_cond_of rfl (fun h => by simp at h; omega) (fun _ => ?_)
    simp
    refine h5 _ _ _ (h3 _ _ _ ?_)
    refine ab_seq_k fun K30 h30 => ?_
    simp
    refine h30 _ _ _ ?_
    clear h30 K30
    simp
    refine fin_Q ?_
    simp [grpis]
    exact ⟨G, hsw, hda⟩
end
end Go.Ab
end

section
/- The library's heap sort: sifting down. -/
set_option linter.unusedVariables false
set_option linter.unusedSimpArgs false
set_option maxHeartbeats 4000000
set_option maxRecDepth 100000
namespace Go.Ab
open Go Go.Proofs

section
variable {cv : V} {D : V → Prop} {lt : V → V → Bool}
/-- A heap: no parent, from one on, is less than its child. -/
def Hp (lt : V → V → Bool) (f hi lo : Nat) (G : Nat → V) : Prop := ∀ c, 1 ≤ c → c < hi → lo ≤ (c - 1) / 2 → lt (G (f + (c - 1) / 2)) (G (f + c)) = false
structure HpI (lt : V → V → Bool) (f hi lo r : Nat) (G : Nat → V) : Prop where
  ge : lo ≤ r
  ok : ∀ c, 1 ≤ c → c < hi → lo ≤ (c - 1) / 2 → (c - 1) / 2 ≠ r → lt (G (f + (c - 1) / 2)) (G (f + c)) = false
  up : r ≠ lo → lo ≤ (r - 1) / 2 ∧ 1 ≤ r ∧ ∀ c, 1 ≤ c → c < hi → (c - 1) / 2 = r → lt (G (f + (r - 1) / 2)) (G (f + c)) = false
theorem HpI.done {f hi lo r : Nat} {G : Nat → V} (h : HpI lt f hi lo r G) (hr : hi ≤ 2 * r + 1) : Hp lt f hi lo G := fun c h1 h2 h3 => h.ok c h1 h2 h3 (by omega)
theorem HpI.stop (hcmp : CmpOK cv D lt) {f hi lo r c0 : Nat} {G : Nat → V} (hD : ∀ k, k < hi → D (G (f + k))) (h : HpI lt f hi lo r G) (hc : c0 < hi) (hp : (c0 - 1) / 2 = r) (hc1 : 1 ≤ c0) (hmax : ∀ c, 1 ≤ c → c < hi → (c - 1) / 2 = r → lt (G (f + c0)) (G (f + c)) = false) (hl : lt (G (f + r)) (G (f + c0)) = false) : Hp lt f hi lo G := by
  intro c h1 h2 h3
  by_cases he : (c - 1) / 2 = r
  · rw [he]
    exact hcmp.ntr _ _ _ (hD r (by omega)) (hD c0 hc) (hD c h2) hl (hmax c h1 h2 he)
  · exact h.ok c h1 h2 h3 he
theorem HpI.step (hcmp : CmpOK cv D lt) {f hi lo r c0 : Nat} {G : Nat → V} (hD : ∀ k, k < hi → D (G (f + k))) (h : HpI lt f hi lo r G) (hc : c0 < hi) (hp : (c0 - 1) / 2 = r) (hc1 : 1 ≤ c0) (hmax : ∀ c, 1 ≤ c → c < hi → (c - 1) / 2 = r → lt (G (f + c0)) (G (f + c)) = false) (hl : lt (G (f + r)) (G (f + c0)) = true) : HpI lt f hi lo c0 (swp G (f + r) (f + c0)) := by
  have has := hcmp.asym _ _ (hD r (by omega)) (hD c0 hc) hl
  refine ⟨by have := h.ge; omega, fun c h1 h2 h3 h4 => ?_, fun _ => ⟨by rw [hp]; exact h.ge, hc1, fun c h1 h2 h3 => ?_⟩⟩
  · rw [swp_at, swp_at]
    rw [if_neg (by omega : ¬ f + (c - 1) / 2 = f + c0)]
    by_cases e1 : (c - 1) / 2 = r
    · rw [if_pos (by omega)]
      by_cases e2 : c = c0
      · rw [if_pos (by omega)]; exact has
      · rw [if_neg (by omega), if_neg (by omega)]; exact hmax c h1 h2 e1
    · rw [if_neg (by omega)]
      by_cases e2 : c = r
      · rw [if_neg (by omega), if_pos (by omega)]
        have := h.up (by omega)
        rw [e2]
        exact this.2.2 c0 hc1 hc hp
      · by_cases e3 : c = c0
        · exact absurd (by rw [e3]; exact hp) e1
        · rw [if_neg (by omega), if_neg (by omega)]
          exact h.ok c h1 h2 h3 e1
  · rw [hp, swp_at, swp_at]
    rw [if_neg (by omega : ¬ f + r = f + c0), if_pos rfl, if_neg (by omega), if_neg (by omega)]
    have := h.ok c h1 h2 (by have := h.ge; omega) (by omega)
    rw [h3] at this
    exact this

theorem sift_ok {f : FuncId} {fn : Func} {ex : List Nat} (hf : Fn_ Tryz.prog f fn ex gsift grsift) (hcmp : CmpOK cv D lt) {σ : List O} {id ver n lo hi fst : Nat} {F : Nat → V} (hD : ∀ k, k < n → D (F k)) (hbn : fst + hi ≤ n) (hlo : lo ≤ n) (hn : n ≤ 1000000) (hσ : σ[id]? = some (.row ver (rowV n F))) (hh : Hp lt fst hi (lo + 1) F) :
    FSpecQ Tryz.prog f [slV id ver n, .i .i64 lo, .i .i64 hi, .i .i64 fst, cv] σ (SwQ σ id ver n fst (fst + hi) F (Hp lt fst hi lo) (.tup [])) := by
  refine hf.specQ mixed noIt_ok ?_
  rw [gsift]
  refine ab_seq_k fun K1 h1 => ?_
  simp
  refine h1 _ _ _ ?_
  clear h1 K1
  refine ab_block_k fun K2 h2 => ?_
  refine ab_loop_k (fun m env σ' => ∃ (r : Nat) (G : Nat → V), hi + lo - r = m ∧ r ≤ hi + lo ∧ env = [(0, slV id ver n), (2, .i .i64 hi), (3, .i .i64 fst), (4, cv), (10, .i .i64 r)] ∧ HpI lt fst hi lo r G ∧ Sw fst (fst + hi) F G ∧ DA σ id ver n G σ') _ ⟨lo, F, rfl, by omega, by simp, ⟨Nat.le_refl _, fun c h1 h2 h3 h4 => hh c h1 h2 (by omega), fun h => absurd rfl h⟩, .refl F, DA.mk0 hσ⟩ ?_
  rintro m env σ' ⟨r, G, hm, hrh, rfl, hpi, hsw, hda⟩ K3 h3
  have hat := hda.at_
  obtain ⟨hat1, hat'⟩ := List.getElem?_eq_some_iff.1 hat
  have hGD := fun k hk => hsw.alln hbn hD (k := k) hk
  have hGD2 : ∀ k, k < hi → D (G (fst + k)) := fun k hk => hGD _ (by omega)
  rw [gsift_0]
  refine ab_block_k fun K4 h4 => ?_
  refine ab_seq_k fun K5 h5 => ?_
  obtain ⟨ch, hch⟩ : ∃ ch, ch = 2 * r + 1 := ⟨_, rfl⟩
  have e1 := wrap64 (x := 2 * (r : Int)) (by omega) (by omega)
  have e2 : IntKind.i64.wrap (2 * (r : Int) + 1) = ch := by rw [wrap64 (by omega) (by omega)]; omega
  simp [e1, e2]
  refine h5 _ _ _ ?_
  clear h5 K5
  refine ab_seq_k fun K6 h6 => ?_
  refine ab_seq_k fun K7 h7 => ?_
  simp
  refine h7 _ _ _ ?_
  clear h7 K7
  by_cases hchh : hi ≤ ch
  · refine ab_cond_of rfl (fun _ => ?_) (fun h => by simp at h; omega)
    simp
    refine h2 _ _ _ (fin_Q ?_)
    simp [grsift]
    exact ⟨rfl, G, hsw, hpi.done (by omega), hda⟩
  refine ab_cond_of rfl (fun h => by simp at h; omega) (fun _ => ?_)
  simp
  refine h6 _ _ _ ?_
  clear h6 K6
  have hrn : fst + r < n := by omega
  have hcn : fst + ch < n := by omega
  obtain ⟨xr, hxr⟩ : ∃ x, x = fst + r := ⟨_, rfl⟩
  obtain ⟨xc, hxc⟩ : ∃ x, x = fst + ch := ⟨_, rfl⟩
  have y1 : IntKind.i64.wrap ((fst : Int) + r) = xr := by rw [wrap64 (by omega) (by omega)]; omega
  have y2 : IntKind.i64.wrap ((fst : Int) + ch) = xc := by rw [wrap64 (by omega) (by omega)]; omega
  have y3 : IntKind.i64.wrap ((ch : Int) + 1) = ((ch + 1 : Nat) : Int) := by rw [wrap64 (by omega) (by omega)]; omega
  have hxrn : xr < n := by omega
  have hxcn : xc < n := by omega
  refine ab_seq_k fun K8 h8 => ?_
  have hK8 : ∀ env (c0 : Nat), get env 0 = slV id ver n → get env 2 = .i .i64 hi → get env 3 = .i .i64 fst → get env 4 = cv → get env 10 = .i .i64 r → get env 11 = .i .i64 c0 → c0 < hi → (c0 - 1) / 2 = r → 1 ≤ c0 → (∀ c, 1 ≤ c → c < hi → (c - 1) / 2 = r → lt (G (fst + c0)) (G (fst + c)) = false) → K8 (some 0) env σ' := by
    intro env c0 w0 w2 w3 w4 w10 w11 hc hp hc1 hmax
    refine h8 _ _ _ ?_
    clear h8
    obtain ⟨x0, hx0⟩ : ∃ x, x = fst + c0 := ⟨_, rfl⟩
    have y0 : IntKind.i64.wrap ((fst : Int) + c0) = x0 := by rw [wrap64 (by omega) (by omega)]; omega
    have hx0n : x0 < n := by omega
    have c1 := hcmp.one _ (hGD _ hxrn)
    have c2 := hcmp.one _ (hGD _ hx0n)
    have hs1 : ∀ c, (σ'.set id c)[id]? = some c := fun c => List.getElem?_set_self hat1
    refine ab_seq_k fun K9 h9 => ?_
    refine ab_seq_k fun K10 h10 => ?_
    simp [abDs_consU, drU, recheck_cons, recheck_nil, rcK, IS.dst, w0, w2, w3, w4, w10, w11, y0, y1, hat, hat', hxrn, hx0n, rowV_get]
    refine callv_cmp hcmp (hGD _ hxrn) (hGD _ hx0n) fun c hcc => ?_
    simp [abDs_consU, drU, recheck_cons, recheck_nil, rcK, IS.dst, hcc, w0, w2, w3, w4, w10, w11]
    refine h10 _ _ _ ?_
    clear h10
    cases hl : lt (G xr) (G x0) with
    | false =>
      refine ab_cond_of rfl (fun _ => ?_) (fun h => by cases h)
      simp
      refine fin_Q ?_
      simp [grsift]
      exact ⟨rfl, G, hsw, hpi.stop hcmp hGD2 hc hp hc1 hmax (by rw [← hxr, ← hx0]; exact hl), hda⟩
    | true =>
      refine ab_cond_of rfl (fun h => by cases h) (fun _ => ?_)
      simp
      refine h9 _ _ _ ?_
      clear h9
      refine ab_seq_k fun K11 h11 => ?_
      simp [abDs_consU, drU, recheck_cons, recheck_nil, rcK, IS.dst, y0, y1, hat, hat', hxrn, hx0n, rowV_get, hs1, c1, c2]
      rw [rowV_swp]
      refine h11 _ _ _ ?_
      simp
      refine h4 _ _ _ (h3 _ _ _ (again _ ?_ ⟨c0, swp G xr x0, rfl, by omega, by simp, ?_, .step _ _ hsw (by omega) (by omega) (by omega) (by omega), hda.put⟩))
      · omega
      · rw [hxr, hx0]
        exact hpi.step hcmp hGD2 hc hp hc1 hmax (by rw [← hxr, ← hx0]; exact hl)
  clear h8
  refine ab_seq_k fun K9 h9 => ?_
  by_cases hd : ch + 1 < hi
  · obtain ⟨xd, hxd⟩ : ∃ x, x = fst + (ch + 1) := ⟨_, rfl⟩
    have y4 : IntKind.i64.wrap ((xc : Int) + 1) = xd := by rw [wrap64 (by omega) (by omega)]; omega
    have hxdn : xd < n := by omega
    have z0 : (ch : Int) + 1 < hi := by omega
    simp only [Int.natCast_add, Int.natCast_one] at y3
    simp [abDs_consU, drU, recheck_cons, recheck_nil, rcK, IS.dst, y2, y3, y4, z0, hat, hat', hxcn, hxdn, rowV_get]
    refine callv_cmp hcmp (hGD _ hxcn) (hGD _ hxdn) fun c hcc => ?_
    simp [abDs_consU, drU, recheck_cons, recheck_nil, rcK, IS.dst, hcc]
    refine h9 _ _ _ ?_
    clear h9
    cases hl : lt (G xc) (G xd) with
    | true =>
      have has := hcmp.asym _ _ (hGD _ hxcn) (hGD _ hxdn) hl
      refine ab_cond_of rfl (fun _ => ?_) (fun h => by cases h)
      simp [y3]
      refine hK8 _ (ch + 1) rfl rfl rfl rfl rfl rfl hd (by omega) (by omega) (fun c h1 h2 h3 => ?_)
      have : c = ch ∨ c = ch + 1 := by omega
      rcases this with e | e
      · rw [e, ← hxd, ← hxc]; exact has
      · rw [e]; exact hcmp.irr (hGD _ (by omega))
    | false =>
      refine ab_cond_of rfl (fun h => by cases h) (fun _ => ?_)
      simp
      refine hK8 _ ch rfl rfl rfl rfl rfl rfl (by omega) (by omega) (by omega) (fun c h1 h2 h3 => ?_)
      have : c = ch ∨ c = ch + 1 := by omega
      rcases this with e | e
      · rw [e]; exact hcmp.irr (hGD _ (by omega))
      · rw [e, ← hxd, ← hxc]; exact hl
  · have z0 : ¬ (ch : Int) + 1 < hi := by omega
    simp only [Int.natCast_add, Int.natCast_one] at y3
    simp [abDs_consU, drU, recheck_cons, recheck_nil, rcK, IS.dst, y3, z0]
    refine h9 _ _ _ ?_
    clear h9
    refine ab_cond_of rfl (fun h => by cases h) (fun _ => ?_)
    simp
    refine hK8 _ ch rfl rfl rfl rfl rfl rfl (by omega) (by omega) (by omega) (fun c h1 h2 h3 => ?_)
    have e : c = ch := by omega
    rw [e]; exact hcmp.irr (hGD _ (by omega))
end
end Go.Ab
end

section
/- The library's heap sort. -/
set_option linter.unusedVariables false
set_option linter.unusedSimpArgs false
set_option maxHeartbeats 4000000
set_option maxRecDepth 100000
namespace Go.Ab
open Go Go.Proofs

section
variable {cv : V} {D : V → Prop} {lt : V → V → Bool}
theorem Hp.root (hcmp : CmpOK cv D lt) {f hi : Nat} {G : Nat → V} (hD : ∀ k, k < hi → D (G (f + k))) (h : Hp lt f hi 0 G) : ∀ c, c < hi → lt (G f) (G (f + c)) = false := by
  intro c
  induction c using Nat.strongRecOn with
  | _ c ih =>
    intro hc
    by_cases h0 : c = 0
    · rw [h0]; exact hcmp.irr (hD 0 (by omega))
    · exact hcmp.ntr _ _ _ (hD 0 (by omega)) (hD ((c - 1) / 2) (by omega)) (hD c hc) (ih ((c - 1) / 2) (by omega) (by omega)) (h c (by omega) hc (Nat.zero_le _))
/-- What stands from one place on is in order, and no less than all before. -/
def Tl (lt : V → V → Bool) (f hi k : Nat) (G : Nat → V) : Prop := ∀ p q, p < q → k ≤ q → q < hi → lt (G (f + q)) (G (f + p)) = false
theorem Tl.step (hcmp : CmpOK cv D lt) {f hi i : Nat} {G H : Nat → V} (hD : ∀ k, k < hi → D (G (f + k))) (hi' : i < hi) (hh : Hp lt f (i + 1) 0 G) (ht : Tl lt f hi (i + 1) G) (hsw : Sw f (f + i) (swp G f (f + i)) H) : Tl lt f hi i H := by
  have hr := hh.root hcmp (fun k hk => hD k (by omega))
  have h1 : Tl lt f hi i (swp G f (f + i)) := by
    intro p q h1 h2 h3
    rw [swp_at, swp_at]
    by_cases hq : q = i
    · rw [if_pos (by omega)]
      rw [if_neg (by omega)]
      by_cases hp : p = 0
      · rw [if_pos (by omega)]; exact hr i (by omega)
      · rw [if_neg (by omega)]; exact hr p (by omega)
    · rw [if_neg (by omega), if_neg (by omega)]
      by_cases hp : p = i
      · rw [if_pos (by omega)]; exact ht 0 q (by omega) (by omega) h3
      · rw [if_neg (by omega)]
        by_cases hp0 : p = 0
        · rw [if_pos (by omega)]; exact ht i q (by omega) (by omega) h3
        · rw [if_neg (by omega)]; exact ht p q h1 (by omega) h3
  intro p q h2 h3 h4
  rw [hsw.out (k := f + q) (by omega)]
  by_cases hp : p < i
  · obtain ⟨k', k1, k2, e⟩ := hsw.src (k := f + p) (by omega) (by omega)
    rw [e, show k' = f + (k' - f) by omega]
    exact h1 (k' - f) q (by omega) h3 h4
  · rw [hsw.out (k := f + p) (by omega)]
    exact h1 p q h2 h3 h4

theorem heap_ok {f siftF : FuncId} {fn fn2 : Func} {ex ex2 : List Nat} (hf : Fn_ Tryz.prog f fn ex (gheap siftF) grheap) (hf2 : Fn_ Tryz.prog siftF fn2 ex2 gsift grsift) (hcmp : CmpOK cv D lt) {σ : List O} {id ver n a b : Nat} {F : Nat → V} (hD : ∀ k, k < n → D (F k)) (hab : a < b) (hbn : b ≤ n) (hn : n ≤ 1000000) (hσ : σ[id]? = some (.row ver (rowV n F))) :
    FSpecQ Tryz.prog f [slV id ver n, .i .i64 a, .i .i64 b, cv] σ (SwQ σ id ver n a b F (Srt lt a b) (.tup [])) := by
  obtain ⟨hi, hhi⟩ : ∃ hi, b = a + (hi + 1) := ⟨b - a - 1, by omega⟩
  refine hf.specQ mixed noIt_ok ?_
  rw [gheap]
  refine ab_seq_k fun K1 h1 => ?_
  simp
  refine h1 _ _ _ ?_
  clear h1 K1
  refine ab_seq_k fun K2 h2 => ?_
  simp
  refine h2 _ _ _ ?_
  clear h2 K2
  have e1 : IntKind.i64.wrap ((b : Int) - a) = (hi : Int) + 1 := by rw [wrap64 (by omega) (by omega)]; omega
  refine ab_seq_k fun K3 h3 => ?_
  simp [e1]
  refine h3 _ _ _ ?_
  clear h3 K3
  refine ab_seq_k fun K4 h4 => ?_
  refine ab_seq_k fun K5 h5 => ?_
  have e2 : IntKind.i64.wrap ((hi : Int)) = (hi : Int) := wrap64 (by omega) (by omega)
  have e3 : IntKind.i64.wrap (Int.tdiv (hi : Int) 2) = ((hi / 2 : Nat) : Int) := by
    have : Int.tdiv (hi : Int) 2 = ((hi / 2 : Nat) : Int) := rfl
    rw [this, wrap64 (by omega) (by omega)]
  obtain ⟨md, hmd⟩ : ∃ md, md = hi / 2 := ⟨_, rfl⟩
  rw [← hmd] at e3
  have e4 : IntKind.i64.wrap ((hi : Int) / 2) = md := by rw [wrap64 (by omega) (by omega)]; omega
  simp [e2, e3, e4]
  refine h5 _ _ _ ?_
  clear h5 K5
  refine ab_block_k fun K6 h6 => ?_
  refine ab_loop_k (fun m env σ' => ∃ (k : Nat) (G : Nat → V), k = m ∧ k ≤ md + 1 ∧ env = [(0, slV id ver n), (3, cv), (8, .i .i64 a), (9, .i .i64 0), (10, .i .i64 ((hi : Int) + 1)), (11, .i .i64 ((k : Int) - 1))] ∧ Hp lt a (hi + 1) k G ∧ Sw a b F G ∧ DA σ id ver n G σ') (md + 1) ⟨md + 1, F, rfl, Nat.le_refl _, by simp, fun c h1 h2 h3 => by omega, .refl F, DA.mk0 hσ⟩ ?_
  rintro m env σ' ⟨k, G, rfl, hk, rfl, hh, hsw, hda⟩ K7 h7
  rw [gheap_0]
  refine ab_seq_k fun K8 h8 => ?_
  refine ab_seq_k fun K9 h9 => ?_
  simp
  refine h9 _ _ _ ?_
  clear h9 K9
  have hGD := fun k hk => hsw.alln hbn hD (k := k) hk
  by_cases hk0 : k = 0
  · subst hk0
    refine ab_cond_of rfl (fun h => by simp at h) (fun _ => ?_)
    simp
    refine h6 _ _ _ (h4 _ _ _ ?_)
    clear h4 h6 h7 h8
    refine ab_seq_k fun K10 h10 => ?_
    simp [e2]
    refine h10 _ _ _ ?_
    clear h10 K10
    refine ab_block_k fun K11 h11 => ?_
    refine ab_loop_k (fun m env σ' => ∃ (k : Nat) (G : Nat → V), k = m ∧ k ≤ hi + 1 ∧ env = [(0, slV id ver n), (3, cv), (8, .i .i64 a), (9, .i .i64 0), (12, .i .i64 ((k : Int) - 1))] ∧ Hp lt a k 0 G ∧ Tl lt a (hi + 1) k G ∧ Sw a b F G ∧ DA σ id ver n G σ') (hi + 1) ⟨hi + 1, G, rfl, Nat.le_refl _, by simp, hh, fun p q h1 h2 h3 => by omega, hsw, hda⟩ ?_
    clear hh hsw hda hGD
    rintro m env σ' ⟨k, G, rfl, hk, rfl, hh, ht, hsw, hda⟩ K12 h12
    rw [gheap_1]
    refine ab_seq_k fun K13 h13 => ?_
    refine ab_seq_k fun K14 h14 => ?_
    simp
    refine h14 _ _ _ ?_
    clear h14 K14
    have hGD := fun k hk => hsw.alln hbn hD (k := k) hk
    by_cases hk0 : k = 0
    · subst hk0
      refine ab_cond_of rfl (fun h => by simp at h) (fun _ => ?_)
      simp
      refine h11 _ _ _ (fin_Q ?_)
      simp [grheap]
      refine ⟨rfl, G, hsw, fun p q h1 h2 h3 => ?_, hda⟩
      have := ht (p - a) (q - a) (by omega) (Nat.zero_le _) (by omega)
      rwa [show a + (q - a) = q by omega, show a + (p - a) = p by omega] at this
    · obtain ⟨i, rfl⟩ : ∃ i, k = i + 1 := ⟨k - 1, by omega⟩
      have z0 : (0 : Int) ≤ ((i + 1 : Nat) : Int) - 1 := by omega
      refine ab_cond_of rfl (fun _ => ?_) (fun h => by simp at h; omega)
      simp
      refine h13 _ _ _ ?_
      clear h13 K13
      refine ab_seq_k fun K15 h15 => ?_
      refine ab_block_k fun K16 h16 => ?_
      obtain ⟨xi, hxi⟩ : ∃ x, x = a + i := ⟨_, rfl⟩
      have y1 : IntKind.i64.wrap ((a : Int) + i) = xi := by rw [wrap64 (by omega) (by omega)]; omega
      have hxn : xi < n := by omega
      have han : a < n := by omega
      have c1 := hcmp.one _ (hGD _ han)
      have c2 := hcmp.one _ (hGD _ hxn)
      have hat := hda.at_
      obtain ⟨hat1, hat'⟩ := List.getElem?_eq_some_iff.1 hat
      have hs1 : ∀ c, (σ'.set id c)[id]? = some c := fun c => List.getElem?_set_self hat1
      refine ab_seq_k fun K17 h17 => ?_
      simp [abDs_consU, drU, recheck_cons, recheck_nil, rcK, IS.dst, y1, hat, hat', han, hxn, rowV_get, hs1, c1, c2]
      rw [rowV_swp]
      refine h17 _ _ _ ?_
      clear h17 K17
      have hsw2 : Sw a b F (swp G a xi) := .step _ _ hsw (by omega) (by omega) (by omega) (by omega)
      have hda2 : DA σ id ver n (swp G a xi) (σ'.set id (.row ver (rowV n (swp G a xi)))) := hda.put
      have hh1 : Hp lt a i (0 + 1) (swp G a xi) := by
        intro c h1 h2 h3
        rw [swp_at, swp_at, if_neg (by omega), if_neg (by omega), if_neg (by omega), if_neg (by omega)]
        exact hh c h1 (by omega) (Nat.zero_le _)
      have hcall := sift_ok hf2 hcmp (lo := 0) (hi := i) (fst := a) (fun k hk => hsw2.alln hbn hD hk) (by omega) (by omega) hn hda2.at_ hh1
      simp
      refine callR_of hcall ?_
      rintro v σ3 ⟨rfl, H, s1, s2, s3⟩
      simp
      refine h16 _ _ _ (h15 _ _ _ ?_)
      simp [wrap64 (x := (i : Int) - 1) (by omega) (by omega)]
      have hsw3 := hsw2.trans (s1.mono (Nat.le_refl _) (by omega))
      have hda3 : DA σ id ver n H σ3 := ⟨s3.at_, by rw [s3.is_, hda2.is_, List.set_set]⟩
      refine h12 _ _ _ (again i (by omega) ⟨i, H, rfl, by omega, by simp, s2, Tl.step hcmp (fun k hk => hGD _ (by omega)) (by omega) hh ht (by rw [← hxi]; rw [hxi] at s1 ⊢; exact s1), hsw3, hda3⟩)
  · obtain ⟨i, rfl⟩ : ∃ i, k = i + 1 := ⟨k - 1, by omega⟩
    refine ab_cond_of rfl (fun _ => ?_) (fun h => by simp at h; omega)
    simp
    refine h8 _ _ _ ?_
    clear h8 K8
    refine ab_seq_k fun K15 h15 => ?_
    refine ab_block_k fun K16 h16 => ?_
    have hcall := sift_ok hf2 hcmp (lo := i) (hi := hi + 1) (fst := a) hGD (by omega) (by omega) hn hda.at_ hh
    simp
    refine callR_of hcall ?_
    rintro v σ3 ⟨rfl, H, s1, s2, s3⟩
    simp
    refine h16 _ _ _ (h15 _ _ _ ?_)
    simp [wrap64 (x := (i : Int) - 1) (by omega) (by omega)]
    have hda3 : DA σ id ver n H σ3 := ⟨s3.at_, by rw [s3.is_, hda.is_, List.set_set]⟩
    refine h7 _ _ _ (again i (by omega) ⟨i, H, rfl, by omega, by simp, s2, hsw.trans (by rw [hhi]; exact s1), hda3⟩)
end
end Go.Ab
end
