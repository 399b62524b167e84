import Derived.Test.YtgndegccjhdmmaaGreatPDx11
/- Part 12 of what the theorem in TC rests on: an abstract layer over the calculus, contracts of the functions of the program, and plain facts. -/
set_option linter.unusedVariables false
set_option linter.unusedSimpArgs false
set_option linter.constructorNameAsVariable false
set_option maxHeartbeats 4000000
set_option maxRecDepth 100000
section
section
namespace Go.Ab
open Go Go.Proofs
section
variable {cv : V} {D : V → Prop} {lt : V → V → Bool}
theorem Srt.snoc (hcmp : CmpOK cv D lt) {a i : Nat} {G : Nat → V} (h : Srt lt a i G) (hD : ∀ k, k ≤ i → D (G k)) (hai : a + 1 ≤ i) (hl : lt (G i) (G (i - 1)) = false) : Srt lt a (i + 1) G := by
 intro p q h1 h2 h3
 by_cases hq : q = i
 ·subst hq
  by_cases hp : p = q - 1
  ·rw [hp]; exact hl
  ·exact hcmp.ntr _ (G (q - 1)) _ (hD q (by omega)) (hD (q - 1) (by omega)) (hD p (by omega)) hl (h p (q - 1) h1 (by omega) (by omega))
 ·exact h p q h1 h2 (by omega)
theorem swp_off' {G : Nat → V} {i j k : Nat} (h1 : k ≠ i) (h2 : k ≠ j) : swp G i j k = G k := by rw [swp_at, if_neg h2, if_neg h1]
theorem Srt.congr {a b : Nat} {F G : Nat → V} (h : Srt lt a b F) (e : ∀ k, a ≤ k → k < b → G k = F k) : Srt lt a b G := by
 intro p q h1 h2 h3
 rw [e p h1 (by omega), e q (by omega) h3]
 exact h p q h1 h2 h3
theorem pis_0 (hcmp : CmpOK cv D lt) {K : Kt} {E : List (Nat × Kt)} {Rt : Kt} {n0 : Nat} {env : Env} {σ : List O} {id ver n a b i c : Nat} {G : Nat → V} (hD : ∀ k, k < n → D (G k)) (hbn : b ≤ n) (hn : n ≤ 1000000) (hat : σ[id]? = some (.row ver (rowV n G))) (w0 : get env 0 = slV id ver n) (w1 : get env 1 = .i .i64 a) (w2 : get env 2 = .i .i64 b) (w3 : get env 3 = cv) (w9 : get env 9 = .i .i64 i) (w10 : get env 10 = .i .i64 c) (hai : a + 1 ≤ i) (hib : i ≤ b) (hs : Srt lt a i G)
  (hK : ∀ i2, a + 1 ≤ i2 → i2 ≤ b → Srt lt a i2 G → (i2 < b → lt (G i2) (G (i2 - 1)) = true) → K (some 0) [(0, slV id ver n), (1, .i .i64 a), (2, .i .i64 b), (3, cv), (9, .i .i64 (i2 : Nat)), (10, .i .i64 c), (36, .b false)] σ) :
  ab Tryz.prog noY noIt n0 (.block 2 (.loop (some [0, 1, 2, 3, 9, 10]) gpis_0)) K E Rt (some 0) env σ := by
 obtain ⟨hat1, hat'⟩ := List.getElem?_eq_some_iff.1 hat
 refine ab_block_k fun K1 h1 => ?_
 refine ab_loop_k (fun m env σ' => ∃ i : Nat, b - i = m ∧ a + 1 ≤ i ∧ i ≤ b ∧ Srt lt a i G ∧ env = [(0, slV id ver n), (1, .i .i64 a), (2, .i .i64 b), (3, cv), (9, .i .i64 i), (10, .i .i64 c)] ∧ σ' = σ) _ ⟨i, rfl, hai, hib, hs, by simp [w0, w1, w2, w3, w9, w10], rfl⟩ ?_
 clear hs hai hib w0 w1 w2 w3 w9 w10 env
 rintro m env σ' ⟨i, hm, hai, hib, hs, rfl, rfl⟩ K2 h2
 rw [gpis_0]
 refine ab_seq_k fun K3 h3 => ?_
 refine ab_seq_k fun K4 h4 => ?_
 obtain ⟨i, rfl⟩ : ∃ i2, i = i2 + 1 := ⟨i - 1, by omega⟩
 by_cases hij : i + 1 < b
 ·have hin : i + 1 < n := by omega
  have hin' : i < n := by omega
  have z0 : (i : Int) + 1 < b := by omega
  have z1 : (0 : Int) ≤ (i : Int) + 1 := by omega
  have z2 : (i : Int) + 1 < n := by omega
  have z3 : (i : Int) < n := by omega
  have zj := wrap64 (x := (i : Int)) (by omega) (by omega)
  simp [abDs_consU, drU, recheck_cons, recheck_nil, rcK, IS.dst, z0, z1, z2, z3, zj, hat, hat', hin, hin', rowV_get]
  refine callv_cmp hcmp (hD _ hin) (hD _ hin') fun c hcc => ?_
  simp [abDs_consU, drU, recheck_cons, recheck_nil, rcK, IS.dst, hcc]
  refine h4 _ _ _ ?_
  clear h4
  cases hl : lt (G (i + 1)) (G i) with
  | false =>
   refine ab_cond_of rfl (fun _ => ?_) (fun h => by cases h)
   simp
   refine h3 _ _ _ ?_
   refine ab_block_k fun K5 h5 => ?_
   simp [wrap64 (x := (i : Int) + 1 + 1) (by omega) (by omega)]
   refine h5 _ _ _ (h2 _ _ _ (again _ ?_ ⟨i + 1 + 1, rfl, by omega, by omega, hs.snoc hcmp (fun k hk => hD k (by omega)) hai hl, by simp, rfl⟩))
   omega
  | true =>
   refine ab_cond_of rfl (fun h => by cases h) (fun _ => ?_)
   simp
   refine h1 _ _ _ ?_
   exact hK (i + 1) hai hib hs (fun _ => hl)
 ·have z0 : ¬ (i : Int) + 1 < b := by omega
  simp [abDs_consU, drU, recheck_cons, recheck_nil, rcK, IS.dst, z0]
  refine h4 _ _ _ ?_
  refine ab_cond_of rfl (fun h => by cases h) (fun _ => ?_)
  simp
  refine h1 _ _ _ ?_
  exact hK (i + 1) hai hib hs (fun h => absurd h hij)
theorem pis_1 (hcmp : CmpOK cv D lt) {K : Kt} {E : List (Nat × Kt)} {Rt : Kt} {n0 : Nat} {env : Env} {σ0 σ : List O} {id ver n a b i c : Nat} {F G : Nat → V} (hD : ∀ k, k < n → D (F k)) (hbn : b ≤ n) (hn : n ≤ 1000000) (hib : i + 1 < b) (hai : a + 1 ≤ i + 1) (hleft : a = 0 ∨ ∀ k, a ≤ k → k < b → lt (F k) (F (a - 1)) = false)
  (hda : DA σ0 id ver n G σ) (hsw : Sw a b F G) (hin : InsI lt a i i G) (w0 : get env 0 = slV id ver n) (w1 : get env 1 = .i .i64 a) (w2 : get env 2 = .i .i64 b) (w3 : get env 3 = cv) (w9 : get env 9 = .i .i64 ((i + 1 : Nat) : Int)) (w10 : get env 10 = .i .i64 c) (w11 : get env 11 = .i .i64 i)
  (hK : ∀ env G σ, get env 0 = slV id ver n → get env 1 = .i .i64 a → get env 2 = .i .i64 b → get env 3 = cv → get env 9 = .i .i64 ((i + 1 : Nat) : Int) → get env 10 = .i .i64 c → DA σ0 id ver n G σ → Sw a b F G → Srt lt a (i + 1) G → K (some 0) env σ) :
  ab Tryz.prog noY noIt n0 (.block 4 (.loop (some [0, 1, 2, 3, 9, 10, 11]) gpis_1)) K E Rt (some 0) env σ := by
 refine ab_block_k fun K1 h1 => ?_
 refine ab_loop_k (fun m env σ => ∃ (j : Nat) (G : Nat → V), j = m ∧ a ≤ j ∧ j ≤ i ∧ env = [(0, slV id ver n), (1, .i .i64 a), (2, .i .i64 b), (3, cv), (9, .i .i64 ((i + 1 : Nat) : Int)), (10, .i .i64 c), (11, .i .i64 j)] ∧ DA σ0 id ver n G σ ∧ Sw a b F G ∧ InsI lt a i j G) i ⟨i, G, rfl, by omega, Nat.le_refl _, by simp [w0, w1, w2, w3, w9, w10, w11], hda, hsw, hin⟩ ?_
 clear hda hsw hin w0 w1 w2 w3 w9 w10 w11 env
 rintro m env σ ⟨j, G, rfl, j1, j2, rfl, hda, hsw, hin⟩ K2 h2
 have hat := hda.at_
 obtain ⟨hat1, hat'⟩ := List.getElem?_eq_some_iff.1 hat
 have hGD := fun k hk => hsw.alln hbn hD (k := k) hk
 rw [gpis_1]
 refine ab_seq_k fun K3 h3 => ?_
 refine ab_seq_k fun K4 h4 => ?_
 simp
 refine h4 _ _ _ ?_
 clear h4
 by_cases hj0 : j = 0
 ·refine ab_cond_of rfl (fun h => by simp [hj0] at h) (fun _ => ?_)
  simp
  refine h1 _ _ _ ?_
  exact hK _ G _ rfl rfl rfl rfl rfl rfl hda hsw (ins_done hcmp (fun k hk => hGD k (by omega)) hin j2 (fun h => by omega))
 obtain ⟨j, rfl⟩ : ∃ j2, j = j2 + 1 := ⟨j - 1, by omega⟩
 refine ab_cond_of rfl (fun _ => ?_) (fun h => by simp at h; omega)
 simp
 refine h3 _ _ _ ?_
 clear h3
 refine ab_seq_k fun K5 h5 => ?_
 refine ab_block_k fun K6 h6 => ?_
 refine ab_seq_k fun K7 h7 => ?_
 refine ab_seq_k fun K8 h8 => ?_
 have hjn : j + 1 < n := by omega
 have hjn' : j < n := by omega
 have z1 : (0 : Int) ≤ (j : Int) + 1 := by omega
 have z2 : (j : Int) + 1 < n := by omega
 have z3 : (j : Int) < n := by omega
 have zj := wrap64 (x := (j : Int)) (by omega) (by omega)
 have c1 := hcmp.one _ (hGD _ hjn)
 have c2 := hcmp.one _ (hGD _ hjn')
 have hs1 : ∀ c, (σ.set id c)[id]? = some c := fun c => List.getElem?_set_self hat1
 simp [abDs_consU, drU, recheck_cons, recheck_nil, rcK, IS.dst, z1, z2, z3, zj, hat, hat', hjn, hjn', rowV_get]
 refine callv_cmp hcmp (hGD _ hjn) (hGD _ hjn') fun c hcc => ?_
 simp [abDs_consU, drU, recheck_cons, recheck_nil, rcK, IS.dst, hcc]
 refine h8 _ _ _ ?_
 clear h8
 cases hl : lt (G (j + 1)) (G j) with
 | false =>
  refine ab_cond_of rfl (fun _ => ?_) (fun h => by cases h)
  simp
  refine h1 _ _ _ ?_
  exact hK _ G _ rfl rfl rfl rfl rfl rfl hda hsw (ins_done hcmp (fun k hk => hGD k (by omega)) hin j2 (fun _ => hl))
 | true =>
  have hja : a ≤ j := by
   false_or_by_contra
   have hje : a = j + 1 := by omega
   rcases hleft with h0 | hlf
   ·omega
   ·have e1 : G j = F (a - 1) := by rw [hsw.out (by omega), hje]; rfl
    have e2 := hsw.all (p := fun x => lt x (F (a - 1)) = false) hlf (k := j + 1) (by omega) (by omega)
    rw [e1] at hl
    rw [hl] at e2
    cases e2
  refine ab_cond_of rfl (fun h => by cases h) (fun _ => ?_)
  simp
  refine h7 _ _ _ ?_
  simp [abDs_consU, drU, recheck_cons, recheck_nil, rcK, IS.dst, z1, z2, z3, zj, hat, hat', hjn, hjn', rowV_get, hs1, c1, c2]
  rw [rowV_swp]
  refine h6 _ _ _ (h5 _ _ _ ?_)
  simp [zj]
  refine h2 _ _ _ (again j (by omega) ⟨j, swp G (j + 1) j, rfl, hja, by omega, by simp [zj], hda.put, .step _ _ hsw (by omega) (by omega) (by omega) (by omega), ins_step hcmp (fun k hk => hGD k (by omega)) hin hja j2 hl⟩)
theorem pis_2 (hcmp : CmpOK cv D lt) {K : Kt} {E : List (Nat × Kt)} {Rt : Kt} {n0 : Nat} {env : Env} {σ0 σ : List O} {id ver n a b i c : Nat} {F G : Nat → V} (hD : ∀ k, k < n → D (F k)) (hbn : b ≤ n) (hn : n ≤ 1000000) (hib : i + 1 < b) (hai : a ≤ i)
  (hda : DA σ0 id ver n G σ) (hsw : Sw a b F G) (hso : Srt lt a i G) (w0 : get env 0 = slV id ver n) (w1 : get env 1 = .i .i64 a) (w2 : get env 2 = .i .i64 b) (w3 : get env 3 = cv) (w9 : get env 9 = .i .i64 i) (w10 : get env 10 = .i .i64 c) (w12 : get env 12 = .i .i64 ((i + 1 : Nat) : Int))
  (hK : ∀ env G σ, get env 0 = slV id ver n → get env 1 = .i .i64 a → get env 2 = .i .i64 b → get env 3 = cv → get env 9 = .i .i64 i → get env 10 = .i .i64 c → DA σ0 id ver n G σ → Sw a b F G → Srt lt a i G → K (some 0) env σ) :
  ab Tryz.prog noY noIt n0 (.block 6 (.loop (some [0, 1, 2, 3, 9, 10, 12]) gpis_2)) K E Rt (some 0) env σ := by
 refine ab_block_k fun K1 h1 => ?_
 refine ab_loop_k (fun m env σ => ∃ (j : Nat) (G : Nat → V), b - j = m ∧ i ≤ j ∧ j + 1 ≤ b ∧ env = [(0, slV id ver n), (1, .i .i64 a), (2, .i .i64 b), (3, cv), (9, .i .i64 i), (10, .i .i64 c), (12, .i .i64 ((j + 1 : Nat) : Int))] ∧ DA σ0 id ver n G σ ∧ Sw a b F G ∧ Srt lt a i G) _ ⟨i, G, rfl, by omega, by omega, by simp [w0, w1, w2, w3, w9, w10, w12], hda, hsw, hso⟩ ?_
 clear hda hsw hso w0 w1 w2 w3 w9 w10 w12 env
 rintro m env σ ⟨j, G, hm, j1, j2, rfl, hda, hsw, hso⟩ K2 h2
 have hat := hda.at_
 obtain ⟨hat1, hat'⟩ := List.getElem?_eq_some_iff.1 hat
 have hGD := fun k hk => hsw.alln hbn hD (k := k) hk
 rw [gpis_2]
 refine ab_seq_k fun K3 h3 => ?_
 refine ab_seq_k fun K4 h4 => ?_
 simp
 refine h4 _ _ _ ?_
 clear h4
 by_cases hjb : j + 1 < b
 ·have z0 : (j : Int) + 1 < b := by omega
  refine ab_cond_of rfl (fun _ => ?_) (fun h => by simp [z0] at h)
  simp
  refine h3 _ _ _ ?_
  clear h3
  refine ab_seq_k fun K5 h5 => ?_
  refine ab_block_k fun K6 h6 => ?_
  refine ab_seq_k fun K7 h7 => ?_
  refine ab_seq_k fun K8 h8 => ?_
  have hjn : j + 1 < n := by omega
  have hjn' : j < n := by omega
  have z1 : (0 : Int) ≤ (j : Int) + 1 := by omega
  have z2 : (j : Int) + 1 < n := by omega
  have z3 : (j : Int) < n := by omega
  have zj := wrap64 (x := (j : Int)) (by omega) (by omega)
  have c1 := hcmp.one _ (hGD _ hjn)
  have c2 := hcmp.one _ (hGD _ hjn')
  have hs1 : ∀ c, (σ.set id c)[id]? = some c := fun c => List.getElem?_set_self hat1
  simp [abDs_consU, drU, recheck_cons, recheck_nil, rcK, IS.dst, z1, z2, z3, zj, hat, hat', hjn, hjn', rowV_get]
  refine callv_cmp hcmp (hGD _ hjn) (hGD _ hjn') fun c hcc => ?_
  simp [abDs_consU, drU, recheck_cons, recheck_nil, rcK, IS.dst, hcc]
  refine h8 _ _ _ ?_
  clear h8
  cases hl : lt (G (j + 1)) (G j) with
  | false =>
   refine ab_cond_of rfl (fun _ => ?_) (fun h => by cases h)
   simp
   refine h1 _ _ _ ?_
   exact hK _ G _ rfl rfl rfl rfl rfl rfl hda hsw hso
  | true =>
   refine ab_cond_of rfl (fun h => by cases h) (fun _ => ?_)
   simp
   refine h7 _ _ _ ?_
   simp [abDs_consU, drU, recheck_cons, recheck_nil, rcK, IS.dst, z1, z2, z3, zj, hat, hat', hjn, hjn', rowV_get, hs1, c1, c2]
   rw [rowV_swp]
   refine h6 _ _ _ (h5 _ _ _ ?_)
   simp [wrap64 (x := (j : Int) + 1 + 1) (by omega) (by omega)]
   refine h2 _ _ _ (again _ ?_ ⟨j + 1, swp G (j + 1) j, rfl, by omega, by omega, by simp, hda.put, .step _ _ hsw (by omega) (by omega) (by omega) (by omega), hso.congr fun k h1 h2 => swp_off' (by omega) (by omega)⟩)
   omega
 ·refine ab_cond_of rfl (fun h => by simp at h; omega) (fun _ => ?_)
  simp
  refine h1 _ _ _ ?_
  exact hK _ G _ rfl rfl rfl rfl rfl rfl hda hsw hso
theorem pis_ok {f : FuncId} {fn : Func} {ex : List Nat} (hf : Fn_ Tryz.prog f fn ex gpis grpis) (hcmp : CmpOK cv D lt) {σ : List O} {id ver n a b : Nat} {F : Nat → V} (hD : ∀ k, k < n → D (F k)) (hab : a < b) (hbn : b ≤ n) (hn : n ≤ 1000000) (hσ : σ[id]? = some (.row ver (rowV n F))) (hleft : a = 0 ∨ ∀ k, a ≤ k → k < b → lt (F k) (F (a - 1)) = false) :
  FSpecQ Tryz.prog f [slV id ver n, .i .i64 a, .i .i64 b, cv] σ (fun v σ' => ∃ (r : Bool) (G : Nat → V), v = .b r ∧ Sw a b F G ∧ (r = true → Srt lt a b G) ∧ DA σ id ver n G σ') := by
 refine hf.specQ mixed noIt_ok ?_
 rw [gpis]
 refine ab_seq_k fun K1 h1 => ?_
 simp
 refine h1 _ _ _ ?_
 clear h1 K1
 refine ab_seq_k fun K2 h2 => ?_
 simp [wrap64 (x := (a : Int) + 1) (by omega) (by omega)]
 refine h2 _ _ _ ?_
 clear h2 K2
 refine ab_seq_k fun K3 h3 => ?_
 refine ab_seq_k fun K4 h4 => ?_
 simp
 refine h4 _ _ _ ?_
 clear h4 K4
 refine ab_block_k fun K5 h5 => ?_
 refine ab_loop_k (fun m env σ' => ∃ (i c : Nat) (G : Nat → V), c + m = 5 ∧ a + 1 ≤ i ∧ i ≤ b ∧ env = [(0, slV id ver n), (1, .i .i64 a), (2, .i .i64 b), (3, cv), (9, .i .i64 i), (10, .i .i64 c)] ∧ Srt lt a i G ∧ Sw a b F G ∧ DA σ id ver n G σ') 5 ⟨a + 1, 0, F, rfl, by omega, by omega, by simp, fun p q _ _ _ => by omega, .refl F, DA.mk0 hσ⟩ ?_
 rintro m env σ' ⟨i, c, G, hm, hai, hib, rfl, hso, hsw, hda⟩ K6 h6
 rw [gpis_3]
 refine ab_seq_k fun K7 h7 => ?_
 refine ab_seq_k fun K8 h8 => ?_
 simp
 refine h8 _ _ _ ?_
 clear h8 K8
 by_cases hc5 : c < 5
 ·refine ab_cond_of rfl (fun _ => ?_) (fun h => by simp at h; omega)
  simp
  refine h7 _ _ _ ?_
  clear h7 K7
  refine ab_seq_k fun K9 h9 => ?_
  refine ab_block_k fun K10 h10 => ?_
  refine ab_seq_k fun K11 h11 => ?_
  have hGD := fun k hk => hsw.alln hbn hD (k := k) hk
  refine pis_0 (i := i) (c := c) hcmp hGD hbn hn hda.at_ rfl rfl rfl rfl rfl rfl hai hib hso ?_
  clear hso hai hib i
  intro i hai hib hso hlt
  refine h11 _ _ _ ?_
  clear h11 K11
  refine ab_seq_k fun K12 h12 => ?_
  refine ab_seq_k fun K13 h13 => ?_
  simp
  refine h13 _ _ _ ?_
  clear h13 K13
  by_cases hie : i = b
  ·refine ab_cond_of rfl (fun _ => ?_) (fun h => by simp [hie] at h)
   refine ab_seq_k fun K14 h14 => ?_
   simp
   refine h14 _ _ _ ?_
   clear h14 K14
   simp
   refine fin_Q ?_
   simp [grpis]
   exact ⟨G, hsw, by rw [← hie]; exact hso, hda⟩
  refine ab_cond_of rfl (fun h => by simp at h; omega) (fun _ => ?_)
  simp
  refine h12 _ _ _ ?_
  clear h12 K12
  refine ab_seq_k fun K15 h15 => ?_
  refine ab_seq_k fun K16 h16 => ?_
  simp [wrap64 (x := (b : Int) - a) (by omega) (by omega)]
  refine h16 _ _ _ ?_
  clear h16 K16
  by_cases h50 : (b : Int) - a < 50
  ·refine ab_cond_of rfl (fun _ => ?_) (fun h => by simp [h50] at h)
   refine ab_seq_k fun K14 h14 => ?_
   simp
   refine h14 _ _ _ ?_
   clear h14 K14
   simp
   refine fin_Q ?_
   simp [grpis]
   exact ⟨G, hsw, hda⟩
  refine ab_cond_of rfl (fun h => by simp [h50] at h) (fun _ => ?_)
  simp
  refine h15 _ _ _ ?_
  clear h15 K15
  obtain ⟨i, rfl⟩ : ∃ i2, i = i2 + 1 := ⟨i - 1, by omega⟩
  have hl := hlt (by omega)
  simp only [Nat.add_sub_cancel] at hl
  have hin : i + 1 < n := by omega
  have hin' : i < n := by omega
  have z1 : (0 : Int) ≤ (i : Int) + 1 := by omega
  have z2 : (i : Int) + 1 < n := by omega
  have z3 : (i : Int) < n := by omega
  have zj := wrap64 (x := (i : Int)) (by omega) (by omega)
  have c1 := hcmp.one _ (hGD _ hin)
  have c2 := hcmp.one _ (hGD _ hin')
  have hat := hda.at_
  obtain ⟨hat1, hat'⟩ := List.getElem?_eq_some_iff.1 hat
  have hs1 : ∀ c, (σ'.set id c)[id]? = some c := fun c => List.getElem?_set_self hat1
  refine ab_seq_k fun K17 h17 => ?_
  simp [abDs_consU, drU, recheck_cons, recheck_nil, rcK, IS.dst, z1, z2, z3, zj, hat, hat', hin, hin', rowV_get, hs1, c1, c2]
  rw [rowV_swp]
  refine h17 _ _ _ ?_
  clear h17 K17
  have hsw2 : Sw a b F (swp G (i + 1) i) := .step _ _ hsw (by omega) (by omega) (by omega) (by omega)
  have hda2 : DA σ id ver n (swp G (i + 1) i) (σ'.set id (.row ver (rowV n (swp G (i + 1) i)))) := hda.put
  have hin2 : InsI lt a i i (swp G (i + 1) i) := fun p q h1 h2 h3 h4 => by
   rw [swp_off' (by omega) (by omega), swp_off' (by omega) (by omega)]
   exact hso p q h1 h2 (by omega)
  generalize swp G (i + 1) i = H at *
  generalize σ'.set id (.row ver (rowV n H)) = σ2 at *
  clear hs1 hat' hat1 hat hda hsw hso hl hlt c1 c2 G hGD
  have hend : ∀ env G σ', get env 0 = slV id ver n → get env 1 = .i .i64 a → get env 2 = .i .i64 b → get env 3 = cv → get env 9 = .i .i64 ((i + 1 : Nat) : Int) → get env 10 = .i .i64 c → DA σ id ver n G σ' → Sw a b F G → Srt lt a (i + 1) G → K10 (some 0) env σ' := by
   intro env G σ' w0 w1 w2 w3 w9 w10 a1 a2 a3
   refine h10 _ _ _ (h9 _ _ _ ?_)
   simp [w0, w1, w2, w3, w9, w10, wrap64 (x := (c : Int) + 1) (by omega) (by omega)]
   exact h6 _ _ _ (again (m - 1) (by omega) ⟨i + 1, c + 1, G, by omega, hai, hib, by simp, a3, a2, a1⟩)
  clear h9 h10 h6
  refine ab_seq_k fun K18 h18 => ?_
  have hK18 : ∀ env G σ', get env 0 = slV id ver n → get env 1 = .i .i64 a → get env 2 = .i .i64 b → get env 3 = cv → get env 9 = .i .i64 ((i + 1 : Nat) : Int) → get env 10 = .i .i64 c → DA σ id ver n G σ' → Sw a b F G → Srt lt a (i + 1) G → K18 (some 0) env σ' := by
   intro env G σ' w0 w1 w2 w3 w9 w10 a1 a2 a3
   refine h18 _ _ _ ?_
   clear h18
   refine ab_seq_k fun K19 h19 => ?_
   simp [w0, w1, w2, w3, w9, w10, wrap64 (x := (b : Int) - ((i : Int) + 1)) (by omega) (by omega)]
   refine h19 _ _ _ ?_
   by_cases hb2 : 2 ≤ (b : Int) - ((i : Int) + 1)
   ·refine ab_cond_of rfl (fun _ => ?_) (fun h => by simp [hb2] at h)
    refine ab_seq_k fun K20 h20 => ?_
    simp [wrap64 (x := (i : Int) + 1 + 1) (by omega) (by omega)]
    refine h20 _ _ _ ?_
    exact pis_2 (i := i + 1) (c := c) hcmp hD hbn hn (by omega) (by omega) a1 a2 a3 rfl rfl rfl rfl rfl rfl rfl hend
   ·refine ab_cond_of rfl (fun h => by simp [hb2] at h) (fun _ => ?_)
    simp
    exact hend _ G _ rfl rfl rfl rfl rfl rfl a1 a2 a3
  clear h18 hend
  refine ab_seq_k fun K21 h21 => ?_
  simp [wrap64 (x := (i : Int) + 1 - a) (by omega) (by omega)]
  refine h21 _ _ _ ?_
  by_cases ha2 : 2 ≤ (i : Int) + 1 - a
  ·refine ab_cond_of rfl (fun _ => ?_) (fun h => by simp [ha2] at h)
   refine ab_seq_k fun K22 h22 => ?_
   simp [zj]
   refine h22 _ _ _ ?_
   exact pis_1 (i := i) (c := c) hcmp hD hbn hn (by omega) hai hleft hda2 hsw2 hin2 rfl rfl rfl rfl rfl rfl rfl hK18
  ·refine ab_cond_of rfl (fun h => by simp [ha2] at h) (fun _ => ?_)
   simp
   exact hK18 _ H _ rfl rfl rfl rfl rfl rfl hda2 hsw2 (fun p q h1 h2 h3 => by omega)
 ·refine ab_cond_of rfl (fun h => by simp at h; omega) (fun _ => ?_)
  simp
  refine h5 _ _ _ (h3 _ _ _ ?_)
  refine ab_seq_k fun K30 h30 => ?_
  simp
  refine h30 _ _ _ ?_
  clear h30 K30
  simp
  refine fin_Q ?_
  simp [grpis]
  exact ⟨G, hsw, hda⟩
end
end Go.Ab
end
section
namespace Go.Ab
open Go Go.Proofs
section
variable {cv : V} {D : V → Prop} {lt : V → V → Bool}
def Hp (lt : V → V → Bool) (f hi lo : Nat) (G : Nat → V) : Prop := ∀ c, 1 ≤ c → c < hi → lo ≤ (c - 1) / 2 → lt (G (f + (c - 1) / 2)) (G (f + c)) = false
structure HpI (lt : V → V → Bool) (f hi lo r : Nat) (G : Nat → V) : Prop where
 ge : lo ≤ r
 ok : ∀ c, 1 ≤ c → c < hi → lo ≤ (c - 1) / 2 → (c - 1) / 2 ≠ r → lt (G (f + (c - 1) / 2)) (G (f + c)) = false
 up : r ≠ lo → lo ≤ (r - 1) / 2 ∧ 1 ≤ r ∧ ∀ c, 1 ≤ c → c < hi → (c - 1) / 2 = r → lt (G (f + (r - 1) / 2)) (G (f + c)) = false
theorem HpI.done {f hi lo r : Nat} {G : Nat → V} (h : HpI lt f hi lo r G) (hr : hi ≤ 2 * r + 1) : Hp lt f hi lo G := fun c h1 h2 h3 => h.ok c h1 h2 h3 (by omega)
theorem HpI.stop (hcmp : CmpOK cv D lt) {f hi lo r c0 : Nat} {G : Nat → V} (hD : ∀ k, k < hi → D (G (f + k))) (h : HpI lt f hi lo r G) (hc : c0 < hi) (hp : (c0 - 1) / 2 = r) (hc1 : 1 ≤ c0) (hmax : ∀ c, 1 ≤ c → c < hi → (c - 1) / 2 = r → lt (G (f + c0)) (G (f + c)) = false) (hl : lt (G (f + r)) (G (f + c0)) = false) : Hp lt f hi lo G := by
 intro c h1 h2 h3
 by_cases he : (c - 1) / 2 = r
 ·rw [he]
  exact hcmp.ntr _ _ _ (hD r (by omega)) (hD c0 hc) (hD c h2) hl (hmax c h1 h2 he)
 ·exact h.ok c h1 h2 h3 he
theorem HpI.step (hcmp : CmpOK cv D lt) {f hi lo r c0 : Nat} {G : Nat → V} (hD : ∀ k, k < hi → D (G (f + k))) (h : HpI lt f hi lo r G) (hc : c0 < hi) (hp : (c0 - 1) / 2 = r) (hc1 : 1 ≤ c0) (hmax : ∀ c, 1 ≤ c → c < hi → (c - 1) / 2 = r → lt (G (f + c0)) (G (f + c)) = false) (hl : lt (G (f + r)) (G (f + c0)) = true) : HpI lt f hi lo c0 (swp G (f + r) (f + c0)) := by
 have has := hcmp.asym _ _ (hD r (by omega)) (hD c0 hc) hl
 refine ⟨by have := h.ge; omega, fun c h1 h2 h3 h4 => ?_, fun _ => ⟨by rw [hp]; exact h.ge, hc1, fun c h1 h2 h3 => ?_⟩⟩
 ·rw [swp_at, swp_at]
  rw [if_neg (by omega : ¬ f + (c - 1) / 2 = f + c0)]
  by_cases e1 : (c - 1) / 2 = r
  ·rw [if_pos (by omega)]
   by_cases e2 : c = c0
   ·rw [if_pos (by omega)]; exact has
   ·rw [if_neg (by omega), if_neg (by omega)]; exact hmax c h1 h2 e1
  ·rw [if_neg (by omega)]
   by_cases e2 : c = r
   ·rw [if_neg (by omega), if_pos (by omega)]
    have := h.up (by omega)
    rw [e2]
    exact this.2.2 c0 hc1 hc hp
   ·by_cases e3 : c = c0
    ·exact absurd (by rw [e3]; exact hp) e1
    ·rw [if_neg (by omega), if_neg (by omega)]
     exact h.ok c h1 h2 h3 e1
 ·rw [hp, swp_at, swp_at]
  rw [if_neg (by omega : ¬ f + r = f + c0), if_pos rfl, if_neg (by omega), if_neg (by omega)]
  have := h.ok c h1 h2 (by have := h.ge; omega) (by omega)
  rw [h3] at this
  exact this
theorem sift_ok {f : FuncId} {fn : Func} {ex : List Nat} (hf : Fn_ Tryz.prog f fn ex gsift grsift) (hcmp : CmpOK cv D lt) {σ : List O} {id ver n lo hi fst : Nat} {F : Nat → V} (hD : ∀ k, k < n → D (F k)) (hbn : fst + hi ≤ n) (hlo : lo ≤ n) (hn : n ≤ 1000000) (hσ : σ[id]? = some (.row ver (rowV n F))) (hh : Hp lt fst hi (lo + 1) F) :
  FSpecQ Tryz.prog f [slV id ver n, .i .i64 lo, .i .i64 hi, .i .i64 fst, cv] σ (SwQ σ id ver n fst (fst + hi) F (Hp lt fst hi lo) (.tup [])) := by
 refine hf.specQ mixed noIt_ok ?_
 rw [gsift]
 refine ab_seq_k fun K1 h1 => ?_
 simp
 refine h1 _ _ _ ?_
 clear h1 K1
 refine ab_block_k fun K2 h2 => ?_
 refine ab_loop_k (fun m env σ' => ∃ (r : Nat) (G : Nat → V), hi + lo - r = m ∧ r ≤ hi + lo ∧ env = [(0, slV id ver n), (2, .i .i64 hi), (3, .i .i64 fst), (4, cv), (10, .i .i64 r)] ∧ HpI lt fst hi lo r G ∧ Sw fst (fst + hi) F G ∧ DA σ id ver n G σ') _ ⟨lo, F, rfl, by omega, by simp, ⟨Nat.le_refl _, fun c h1 h2 h3 h4 => hh c h1 h2 (by omega), fun h => absurd rfl h⟩, .refl F, DA.mk0 hσ⟩ ?_
 rintro m env σ' ⟨r, G, hm, hrh, rfl, hpi, hsw, hda⟩ K3 h3
 have hat := hda.at_
 obtain ⟨hat1, hat'⟩ := List.getElem?_eq_some_iff.1 hat
 have hGD := fun k hk => hsw.alln hbn hD (k := k) hk
 have hGD2 : ∀ k, k < hi → D (G (fst + k)) := fun k hk => hGD _ (by omega)
 rw [gsift_0]
 refine ab_block_k fun K4 h4 => ?_
 refine ab_seq_k fun K5 h5 => ?_
 obtain ⟨ch, hch⟩ : ∃ ch, ch = 2 * r + 1 := ⟨_, rfl⟩
 have e1 := wrap64 (x := 2 * (r : Int)) (by omega) (by omega)
 have e2 : IntKind.i64.wrap (2 * (r : Int) + 1) = ch := by rw [wrap64 (by omega) (by omega)]; omega
 simp [e1, e2]
 refine h5 _ _ _ ?_
 clear h5 K5
 refine ab_seq_k fun K6 h6 => ?_
 refine ab_seq_k fun K7 h7 => ?_
 simp
 refine h7 _ _ _ ?_
 clear h7 K7
 by_cases hchh : hi ≤ ch
 ·refine ab_cond_of rfl (fun _ => ?_) (fun h => by simp at h; omega)
  simp
  refine h2 _ _ _ (fin_Q ?_)
  simp [grsift]
  exact ⟨rfl, G, hsw, hpi.done (by omega), hda⟩
 refine ab_cond_of rfl (fun h => by simp at h; omega) (fun _ => ?_)
 simp
 refine h6 _ _ _ ?_
 clear h6 K6
 have hrn : fst + r < n := by omega
 have hcn : fst + ch < n := by omega
 obtain ⟨xr, hxr⟩ : ∃ x, x = fst + r := ⟨_, rfl⟩
 obtain ⟨xc, hxc⟩ : ∃ x, x = fst + ch := ⟨_, rfl⟩
 have y1 : IntKind.i64.wrap ((fst : Int) + r) = xr := by rw [wrap64 (by omega) (by omega)]; omega
 have y2 : IntKind.i64.wrap ((fst : Int) + ch) = xc := by rw [wrap64 (by omega) (by omega)]; omega
 have y3 : IntKind.i64.wrap ((ch : Int) + 1) = ((ch + 1 : Nat) : Int) := by rw [wrap64 (by omega) (by omega)]; omega
 have hxrn : xr < n := by omega
 have hxcn : xc < n := by omega
 refine ab_seq_k fun K8 h8 => ?_
 have hK8 : ∀ env (c0 : Nat), get env 0 = slV id ver n → get env 2 = .i .i64 hi → get env 3 = .i .i64 fst → get env 4 = cv → get env 10 = .i .i64 r → get env 11 = .i .i64 c0 → c0 < hi → (c0 - 1) / 2 = r → 1 ≤ c0 → (∀ c, 1 ≤ c → c < hi → (c - 1) / 2 = r → lt (G (fst + c0)) (G (fst + c)) = false) → K8 (some 0) env σ' := by
  intro env c0 w0 w2 w3 w4 w10 w11 hc hp hc1 hmax
  refine h8 _ _ _ ?_
  clear h8
  obtain ⟨x0, hx0⟩ : ∃ x, x = fst + c0 := ⟨_, rfl⟩
  have y0 : IntKind.i64.wrap ((fst : Int) + c0) = x0 := by rw [wrap64 (by omega) (by omega)]; omega
  have hx0n : x0 < n := by omega
  have c1 := hcmp.one _ (hGD _ hxrn)
  have c2 := hcmp.one _ (hGD _ hx0n)
  have hs1 : ∀ c, (σ'.set id c)[id]? = some c := fun c => List.getElem?_set_self hat1
  refine ab_seq_k fun K9 h9 => ?_
  refine ab_seq_k fun K10 h10 => ?_
  simp [abDs_consU, drU, recheck_cons, recheck_nil, rcK, IS.dst, w0, w2, w3, w4, w10, w11, y0, y1, hat, hat', hxrn, hx0n, rowV_get]
  refine callv_cmp hcmp (hGD _ hxrn) (hGD _ hx0n) fun c hcc => ?_
  simp [abDs_consU, drU, recheck_cons, recheck_nil, rcK, IS.dst, hcc, w0, w2, w3, w4, w10, w11]
  refine h10 _ _ _ ?_
  clear h10
  cases hl : lt (G xr) (G x0) with
  | false =>
   refine ab_cond_of rfl (fun _ => ?_) (fun h => by cases h)
   simp
   refine fin_Q ?_
   simp [grsift]
   exact ⟨rfl, G, hsw, hpi.stop hcmp hGD2 hc hp hc1 hmax (by rw [← hxr, ← hx0]; exact hl), hda⟩
  | true =>
   refine ab_cond_of rfl (fun h => by cases h) (fun _ => ?_)
   simp
   refine h9 _ _ _ ?_
   clear h9
   refine ab_seq_k fun K11 h11 => ?_
   simp [abDs_consU, drU, recheck_cons, recheck_nil, rcK, IS.dst, y0, y1, hat, hat', hxrn, hx0n, rowV_get, hs1, c1, c2]
   rw [rowV_swp]
   refine h11 _ _ _ ?_
   simp
   refine h4 _ _ _ (h3 _ _ _ (again _ ?_ ⟨c0, swp G xr x0, rfl, by omega, by simp, ?_, .step _ _ hsw (by omega) (by omega) (by omega) (by omega), hda.put⟩))
   ·omega
   ·rw [hxr, hx0]
    exact hpi.step hcmp hGD2 hc hp hc1 hmax (by rw [← hxr, ← hx0]; exact hl)
 clear h8
 refine ab_seq_k fun K9 h9 => ?_
 by_cases hd : ch + 1 < hi
 ·obtain ⟨xd, hxd⟩ : ∃ x, x = fst + (ch + 1) := ⟨_, rfl⟩
  have y4 : IntKind.i64.wrap ((xc : Int) + 1) = xd := by rw [wrap64 (by omega) (by omega)]; omega
  have hxdn : xd < n := by omega
  have z0 : (ch : Int) + 1 < hi := by omega
  simp only [Int.natCast_add, Int.natCast_one] at y3
  simp [abDs_consU, drU, recheck_cons, recheck_nil, rcK, IS.dst, y2, y3, y4, z0, hat, hat', hxcn, hxdn, rowV_get]
  refine callv_cmp hcmp (hGD _ hxcn) (hGD _ hxdn) fun c hcc => ?_
  simp [abDs_consU, drU, recheck_cons, recheck_nil, rcK, IS.dst, hcc]
  refine h9 _ _ _ ?_
  clear h9
  cases hl : lt (G xc) (G xd) with
  | true =>
   have has := hcmp.asym _ _ (hGD _ hxcn) (hGD _ hxdn) hl
   refine ab_cond_of rfl (fun _ => ?_) (fun h => by cases h)
   simp [y3]
   refine hK8 _ (ch + 1) rfl rfl rfl rfl rfl rfl hd (by omega) (by omega) (fun c h1 h2 h3 => ?_)
   have : c = ch ∨ c = ch + 1 := by omega
   rcases this with e | e
   ·rw [e, ← hxd, ← hxc]; exact has
   ·rw [e]; exact hcmp.irr (hGD _ (by omega))
  | false =>
   refine ab_cond_of rfl (fun h => by cases h) (fun _ => ?_)
   simp
   refine hK8 _ ch rfl rfl rfl rfl rfl rfl (by omega) (by omega) (by omega) (fun c h1 h2 h3 => ?_)
   have : c = ch ∨ c = ch + 1 := by omega
   rcases this with e | e
   ·rw [e]; exact hcmp.irr (hGD _ (by omega))
   ·rw [e, ← hxd, ← hxc]; exact hl
 ·have z0 : ¬ (ch : Int) + 1 < hi := by omega
  simp only [Int.natCast_add, Int.natCast_one] at y3
  simp [abDs_consU, drU, recheck_cons, recheck_nil, rcK, IS.dst, y3, z0]
  refine h9 _ _ _ ?_
  clear h9
  refine ab_cond_of rfl (fun h => by cases h) (fun _ => ?_)
  simp
  refine hK8 _ ch rfl rfl rfl rfl rfl rfl (by omega) (by omega) (by omega) (fun c h1 h2 h3 => ?_)
  have e : c = ch := by omega
  rw [e]; exact hcmp.irr (hGD _ (by omega))
end
end Go.Ab
end
section
namespace Go.Ab
open Go Go.Proofs
section
variable {cv : V} {D : V → Prop} {lt : V → V → Bool}
theorem Hp.root (hcmp : CmpOK cv D lt) {f hi : Nat} {G : Nat → V} (hD : ∀ k, k < hi → D (G (f + k))) (h : Hp lt f hi 0 G) : ∀ c, c < hi → lt (G f) (G (f + c)) = false := by
 intro c
 induction c using Nat.strongRecOn with
 | _ c ih =>
  intro hc
  by_cases h0 : c = 0
  ·rw [h0]; exact hcmp.irr (hD 0 (by omega))
  ·exact hcmp.ntr _ _ _ (hD 0 (by omega)) (hD ((c - 1) / 2) (by omega)) (hD c hc) (ih ((c - 1) / 2) (by omega) (by omega)) (h c (by omega) hc (Nat.zero_le _))
def Tl (lt : V → V → Bool) (f hi k : Nat) (G : Nat → V) : Prop := ∀ p q, p < q → k ≤ q → q < hi → lt (G (f + q)) (G (f + p)) = false
theorem Tl.step (hcmp : CmpOK cv D lt) {f hi i : Nat} {G H : Nat → V} (hD : ∀ k, k < hi → D (G (f + k))) (hi' : i < hi) (hh : Hp lt f (i + 1) 0 G) (ht : Tl lt f hi (i + 1) G) (hsw : Sw f (f + i) (swp G f (f + i)) H) : Tl lt f hi i H := by
 have hr := hh.root hcmp (fun k hk => hD k (by omega))
 have h1 : Tl lt f hi i (swp G f (f + i)) := by
  intro p q h1 h2 h3
  rw [swp_at, swp_at]
  by_cases hq : q = i
  ·rw [if_pos (by omega)]
   rw [if_neg (by omega)]
   by_cases hp : p = 0
   ·rw [if_pos (by omega)]; exact hr i (by omega)
   ·rw [if_neg (by omega)]; exact hr p (by omega)
  ·rw [if_neg (by omega), if_neg (by omega)]
   by_cases hp : p = i
   ·rw [if_pos (by omega)]; exact ht 0 q (by omega) (by omega) h3
   ·rw [if_neg (by omega)]
    by_cases hp0 : p = 0
    ·rw [if_pos (by omega)]; exact ht i q (by omega) (by omega) h3
    ·rw [if_neg (by omega)]; exact ht p q h1 (by omega) h3
 intro p q h2 h3 h4
 rw [hsw.out (k := f + q) (by omega)]
 by_cases hp : p < i
 ·obtain ⟨k', k1, k2, e⟩ := hsw.src (k := f + p) (by omega) (by omega)
  rw [e, show k' = f + (k' - f) by omega]
  exact h1 (k' - f) q (by omega) h3 h4
 ·rw [hsw.out (k := f + p) (by omega)]
  exact h1 p q h2 h3 h4
theorem heap_ok {f siftF : FuncId} {fn fn2 : Func} {ex ex2 : List Nat} (hf : Fn_ Tryz.prog f fn ex (gheap siftF) grheap) (hf2 : Fn_ Tryz.prog siftF fn2 ex2 gsift grsift) (hcmp : CmpOK cv D lt) {σ : List O} {id ver n a b : Nat} {F : Nat → V} (hD : ∀ k, k < n → D (F k)) (hab : a < b) (hbn : b ≤ n) (hn : n ≤ 1000000) (hσ : σ[id]? = some (.row ver (rowV n F))) :
  FSpecQ Tryz.prog f [slV id ver n, .i .i64 a, .i .i64 b, cv] σ (SwQ σ id ver n a b F (Srt lt a b) (.tup [])) := by
 obtain ⟨hi, hhi⟩ : ∃ hi, b = a + (hi + 1) := ⟨b - a - 1, by omega⟩
 refine hf.specQ mixed noIt_ok ?_
 rw [gheap]
 refine ab_seq_k fun K1 h1 => ?_
 simp
 refine h1 _ _ _ ?_
 clear h1 K1
 refine ab_seq_k fun K2 h2 => ?_
 simp
 refine h2 _ _ _ ?_
 clear h2 K2
 have e1 : IntKind.i64.wrap ((b : Int) - a) = (hi : Int) + 1 := by rw [wrap64 (by omega) (by omega)]; omega
 refine ab_seq_k fun K3 h3 => ?_
 simp [e1]
 refine h3 _ _ _ ?_
 clear h3 K3
 refine ab_seq_k fun K4 h4 => ?_
 refine ab_seq_k fun K5 h5 => ?_
 have e2 : IntKind.i64.wrap ((hi : Int)) = (hi : Int) := wrap64 (by omega) (by omega)
 have e3 : IntKind.i64.wrap (Int.tdiv (hi : Int) 2) = ((hi / 2 : Nat) : Int) := by
  have : Int.tdiv (hi : Int) 2 = ((hi / 2 : Nat) : Int) := rfl
  rw [this, wrap64 (by omega) (by omega)]
 obtain ⟨md, hmd⟩ : ∃ md, md = hi / 2 := ⟨_, rfl⟩
 rw [← hmd] at e3
 have e4 : IntKind.i64.wrap ((hi : Int) / 2) = md := by rw [wrap64 (by omega) (by omega)]; omega
 simp [e2, e3, e4]
 refine h5 _ _ _ ?_
 clear h5 K5
 refine ab_block_k fun K6 h6 => ?_
 refine ab_loop_k (fun m env σ' => ∃ (k : Nat) (G : Nat → V), k = m ∧ k ≤ md + 1 ∧ env = [(0, slV id ver n), (3, cv), (8, .i .i64 a), (9, .i .i64 0), (10, .i .i64 ((hi : Int) + 1)), (11, .i .i64 ((k : Int) - 1))] ∧ Hp lt a (hi + 1) k G ∧ Sw a b F G ∧ DA σ id ver n G σ') (md + 1) ⟨md + 1, F, rfl, Nat.le_refl _, by simp, fun c h1 h2 h3 => by omega, .refl F, DA.mk0 hσ⟩ ?_
 rintro m env σ' ⟨k, G, rfl, hk, rfl, hh, hsw, hda⟩ K7 h7
 rw [gheap_0]
 refine ab_seq_k fun K8 h8 => ?_
 refine ab_seq_k fun K9 h9 => ?_
 simp
 refine h9 _ _ _ ?_
 clear h9 K9
 have hGD := fun k hk => hsw.alln hbn hD (k := k) hk
 by_cases hk0 : k = 0
 ·subst hk0
  refine ab_cond_of rfl (fun h => by simp at h) (fun _ => ?_)
  simp
  refine h6 _ _ _ (h4 _ _ _ ?_)
  clear h4 h6 h7 h8
  refine ab_seq_k fun K10 h10 => ?_
  simp [e2]
  refine h10 _ _ _ ?_
  clear h10 K10
  refine ab_block_k fun K11 h11 => ?_
  refine ab_loop_k (fun m env σ' => ∃ (k : Nat) (G : Nat → V), k = m ∧ k ≤ hi + 1 ∧ env = [(0, slV id ver n), (3, cv), (8, .i .i64 a), (9, .i .i64 0), (12, .i .i64 ((k : Int) - 1))] ∧ Hp lt a k 0 G ∧ Tl lt a (hi + 1) k G ∧ Sw a b F G ∧ DA σ id ver n G σ') (hi + 1) ⟨hi + 1, G, rfl, Nat.le_refl _, by simp, hh, fun p q h1 h2 h3 => by omega, hsw, hda⟩ ?_
  clear hh hsw hda hGD
  rintro m env σ' ⟨k, G, rfl, hk, rfl, hh, ht, hsw, hda⟩ K12 h12
  rw [gheap_1]
  refine ab_seq_k fun K13 h13 => ?_
  refine ab_seq_k fun K14 h14 => ?_
  simp
  refine h14 _ _ _ ?_
  clear h14 K14
  have hGD := fun k hk => hsw.alln hbn hD (k := k) hk
  by_cases hk0 : k = 0
  ·subst hk0
   refine ab_cond_of rfl (fun h => by simp at h) (fun _ => ?_)
   simp
   refine h11 _ _ _ (fin_Q ?_)
   simp [grheap]
   refine ⟨rfl, G, hsw, fun p q h1 h2 h3 => ?_, hda⟩
   have := ht (p - a) (q - a) (by omega) (Nat.zero_le _) (by omega)
   rwa [show a + (q - a) = q by omega, show a + (p - a) = p by omega] at this
  ·obtain ⟨i, rfl⟩ : ∃ i, k = i + 1 := ⟨k - 1, by omega⟩
   have z0 : (0 : Int) ≤ ((i + 1 : Nat) : Int) - 1 := by omega
   refine ab_cond_of rfl (fun _ => ?_) (fun h => by simp at h; omega)
   simp
   refine h13 _ _ _ ?_
   clear h13 K13
   refine ab_seq_k fun K15 h15 => ?_
   refine ab_block_k fun K16 h16 => ?_
   obtain ⟨xi, hxi⟩ : ∃ x, x = a + i := ⟨_, rfl⟩
   have y1 : IntKind.i64.wrap ((a : Int) + i) = xi := by rw [wrap64 (by omega) (by omega)]; omega
   have hxn : xi < n := by omega
   have han : a < n := by omega
   have c1 := hcmp.one _ (hGD _ han)
   have c2 := hcmp.one _ (hGD _ hxn)
   have hat := hda.at_
   obtain ⟨hat1, hat'⟩ := List.getElem?_eq_some_iff.1 hat
   have hs1 : ∀ c, (σ'.set id c)[id]? = some c := fun c => List.getElem?_set_self hat1
   refine ab_seq_k fun K17 h17 => ?_
   simp [abDs_consU, drU, recheck_cons, recheck_nil, rcK, IS.dst, y1, hat, hat', han, hxn, rowV_get, hs1, c1, c2]
   rw [rowV_swp]
   refine h17 _ _ _ ?_
   clear h17 K17
   have hsw2 : Sw a b F (swp G a xi) := .step _ _ hsw (by omega) (by omega) (by omega) (by omega)
   have hda2 : DA σ id ver n (swp G a xi) (σ'.set id (.row ver (rowV n (swp G a xi)))) := hda.put
   have hh1 : Hp lt a i (0 + 1) (swp G a xi) := by
    intro c h1 h2 h3
    rw [swp_at, swp_at, if_neg (by omega), if_neg (by omega), if_neg (by omega), if_neg (by omega)]
    exact hh c h1 (by omega) (Nat.zero_le _)
   have hcall := sift_ok hf2 hcmp (lo := 0) (hi := i) (fst := a) (fun k hk => hsw2.alln hbn hD hk) (by omega) (by omega) hn hda2.at_ hh1
   simp
   refine callR_of hcall ?_
   rintro v σ3 ⟨rfl, H, s1, s2, s3⟩
   simp
   refine h16 _ _ _ (h15 _ _ _ ?_)
   simp [wrap64 (x := (i : Int) - 1) (by omega) (by omega)]
   have hsw3 := hsw2.trans (s1.mono (Nat.le_refl _) (by omega))
   have hda3 : DA σ id ver n H σ3 := ⟨s3.at_, by rw [s3.is_, hda2.is_, List.set_set]⟩
   refine h12 _ _ _ (again i (by omega) ⟨i, H, rfl, by omega, by simp, s2, Tl.step hcmp (fun k hk => hGD _ (by omega)) (by omega) hh ht (by rw [← hxi]; rw [hxi] at s1 ⊢; exact s1), hsw3, hda3⟩)
 ·obtain ⟨i, rfl⟩ : ∃ i, k = i + 1 := ⟨k - 1, by omega⟩
  refine ab_cond_of rfl (fun _ => ?_) (fun h => by simp at h; omega)
  simp
  refine h8 _ _ _ ?_
  clear h8 K8
  refine ab_seq_k fun K15 h15 => ?_
  refine ab_block_k fun K16 h16 => ?_
  have hcall := sift_ok hf2 hcmp (lo := i) (hi := hi + 1) (fst := a) hGD (by omega) (by omega) hn hda.at_ hh
  simp
  refine callR_of hcall ?_
  rintro v σ3 ⟨rfl, H, s1, s2, s3⟩
  simp
  refine h16 _ _ _ (h15 _ _ _ ?_)
  simp [wrap64 (x := (i : Int) - 1) (by omega) (by omega)]
  have hda3 : DA σ id ver n H σ3 := ⟨s3.at_, by rw [s3.is_, hda.is_, List.set_set]⟩
  refine h7 _ _ _ (again i (by omega) ⟨i, H, rfl, by omega, by simp, s2, hsw.trans (by rw [hhi]; exact s1), hda3⟩)
end
end Go.Ab
end
end
section
section
namespace Go.Ab
open Go Go.Proofs
structure CA (σ0 : List O) (sid : Nat) (s : Int) (σ : List O) : Prop where
 at_ : σ[sid]? = some (.row 0 [.i .i64 s])
 is_ : σ = σ0.set sid (.row 0 [.i .i64 s])
theorem set_same {σ : List O} {id : Nat} {o : O} (h : σ[id]? = some o) : σ = σ.set id o := by
 apply List.ext_getElem?
 intro j
 by_cases hj : j = id
 ·subst hj; rw [List.getElem?_set_self (List.getElem?_eq_some_iff.1 h).1, h]
 ·rw [List.getElem?_set_ne (fun e => hj e.symm)]
theorem CA.mk0 {σ : List O} {sid : Nat} {s : Int} (h : σ[sid]? = some (.row 0 [.i .i64 s])) : CA σ sid s σ := ⟨h, set_same h⟩
theorem CA.put {σ0 σ : List O} {sid : Nat} {s t : Int} (h : CA σ0 sid s σ) : CA σ0 sid t (σ.set sid (.row 0 [.i .i64 t])) := by
 obtain ⟨h1, h2⟩ := h
 refine ⟨List.getElem?_set_self (List.getElem?_eq_some_iff.1 h1).1, ?_⟩
 rw [h2, List.set_set]
theorem CA.other {σ0 σ : List O} {sid j : Nat} {s : Int} (h : CA σ0 sid s σ) (hj : j ≠ sid) : σ[j]? = σ0[j]? := by
 rw [h.is_, List.getElem?_set_ne (fun e => hj e.symm)]
theorem CA.trans {σ0 σ1 σ2 : List O} {sid : Nat} {s t : Int} (h : CA σ0 sid s σ1) (h2 : CA σ1 sid t σ2) : CA σ0 sid t σ2 := ⟨h2.at_, by rw [h2.is_, h.is_, List.set_set]⟩
theorem finQ_cut {rs : List IRes} {σ0 g : List O} {Q : V → List O → Prop} {md : Md} {env : Env} (h : resK rs env (σ0 ++ g) fun vs => Q (retV vs) σ0 ∧ (retV vs).pure = true) : finQ rs σ0 Q md env (σ0 ++ g) :=
 fun _ => resK_mono h fun vs h => ⟨_, _, h.1, .inl ⟨1, σ0.length, Nat.le_refl _, by simp, frz_pure h.2, .inr ⟨rfl, ⟨g, rfl⟩, rfl⟩⟩⟩
section
variable {cv : V} {D : V → Prop} {lt : V → V → Bool}
theorem ord2_ok {f : FuncId} {fn : Func} {ex : List Nat} (hf : Fn_ Tryz.prog f fn ex gord2 grord2) (hcmp : CmpOK cv D lt) {σ : List O} {id ver n a b sid : Nat} {s : Int} {F : Nat → V} (hD : ∀ k, k < n → D (F k)) (ha : a < n) (hb : b < n) (hσ : σ[id]? = some (.row ver (rowV n F))) (hs : σ[sid]? = some (.row 0 [.i .i64 s])) :
  FSpecQ Tryz.prog f [slV id ver n, .i .i64 a, .i .i64 b, .p sid 0 0, cv] σ (fun v σ' => ∃ (x y : Nat) (t : Int), v = .tup [.i .i64 x, .i .i64 y] ∧ ((x = a ∧ y = b) ∨ (x = b ∧ y = a)) ∧ CA σ sid t σ') := by
 refine hf.specQ mixed noIt_ok ?_
 rw [gord2]
 refine ab_seq_k fun K1 h1 => ?_
 simp
 refine h1 _ _ _ ?_
 clear h1 K1
 obtain ⟨hσ1, hσ'⟩ := List.getElem?_eq_some_iff.1 hσ
 obtain ⟨hs1, hs'⟩ := List.getElem?_eq_some_iff.1 hs
 refine ab_seq_k fun K2 h2 => ?_
 refine ab_seq_k fun K3 h3 => ?_
 simp [abDs_consU, drU, recheck_cons, recheck_nil, rcK, IS.dst, hσ, hσ', ha, hb, rowV_get]
 refine callv_cmp hcmp (hD _ hb) (hD _ ha) fun c hcc => ?_
 simp [abDs_consU, drU, recheck_cons, recheck_nil, rcK, IS.dst, hcc]
 refine h3 _ _ _ ?_
 cases hl : lt (F b) (F a) with
 | true =>
  refine ab_cond_of rfl (fun _ => ?_) (fun h => by cases h)
  refine ab_seq_k fun K4 h4 => ?_
  simp [hs, hs']
  refine h4 _ _ _ ?_
  refine ab_seq_k fun K5 h5 => ?_
  simp
  refine h5 _ _ _ ?_
  clear h5 K5
  simp
  refine fin_Q ?_
  simp [grord2]
  exact ⟨b, a, ⟨rfl, rfl⟩, .inr ⟨rfl, rfl⟩, _, (CA.mk0 hs).put⟩
 | false =>
  refine ab_cond_of rfl (fun h => by cases h) (fun _ => ?_)
  simp
  refine h2 _ _ _ ?_
  refine ab_seq_k fun K5 h5 => ?_
  simp
  refine h5 _ _ _ ?_
  clear h5 K5
  simp
  refine fin_Q ?_
  simp [grord2]
  exact ⟨a, b, ⟨rfl, rfl⟩, .inl ⟨rfl, rfl⟩, _, CA.mk0 hs⟩
theorem med_ok {f f2 : FuncId} {fn fn2 : Func} {ex ex2 : List Nat} (hf : Fn_ Tryz.prog f fn ex (gmed f2) grmed) (hf2 : Fn_ Tryz.prog f2 fn2 ex2 gord2 grord2) (hcmp : CmpOK cv D lt) {σ : List O} {id ver n a b c sid : Nat} {s : Int} {F : Nat → V} (hD : ∀ k, k < n → D (F k)) (ha : a < n) (hb : b < n) (hc : c < n) (hid : id ≠ sid) (hσ : σ[id]? = some (.row ver (rowV n F))) (hs : σ[sid]? = some (.row 0 [.i .i64 s])) :
  FSpecQ Tryz.prog f [slV id ver n, .i .i64 a, .i .i64 b, .i .i64 c, .p sid 0 0, cv] σ (fun v σ' => ∃ (x : Nat) (t : Int), v = .i .i64 x ∧ (x = a ∨ x = b ∨ x = c) ∧ CA σ sid t σ') := by
 refine hf.specQ mixed noIt_ok ?_
 rw [gmed]
 refine ab_seq_k fun K1 h1 => ?_
 simp
 refine h1 _ _ _ ?_
 clear h1 K1
 refine ab_seq_k fun K2 h2 => ?_
 simp
 refine callR_of (ord2_ok hf2 hcmp hD ha hb hσ hs) ?_
 rintro v σ1 ⟨x1, y1, t1, rfl, hxy1, k1⟩
 simp
 refine h2 _ _ _ ?_
 clear h2 K2
 refine ab_seq_k fun K2 h2 => ?_
 simp
 refine callR_of (ord2_ok hf2 hcmp (a := y1) (b := c) hD (by omega) hc (by rw [k1.other hid]; exact hσ) k1.at_) ?_
 rintro v σ2 ⟨x2, y2, t2, rfl, hxy2, k2⟩
 simp
 refine h2 _ _ _ ?_
 clear h2 K2
 have k12 := k1.trans k2
 refine ab_seq_k fun K2 h2 => ?_
 simp
 refine callR_of (ord2_ok hf2 hcmp (a := x1) (b := x2) hD (by omega) (by omega) (by rw [k12.other hid]; exact hσ) k12.at_) ?_
 rintro v σ3 ⟨x3, y3, t3, rfl, hxy3, k3⟩
 simp
 refine h2 _ _ _ ?_
 clear h2 K2
 refine ab_seq_k fun K5 h5 => ?_
 simp
 refine h5 _ _ _ ?_
 clear h5 K5
 simp
 refine fin_Q ?_
 simp [grmed]
 exact ⟨y3, rfl, by omega, t3, k12.trans k3⟩
theorem madj_ok {f f1 f2 : FuncId} {fn fn1 fn2 : Func} {ex ex1 ex2 : List Nat} (hf : Fn_ Tryz.prog f fn ex (gmadj f1) grmadj) (hf1 : Fn_ Tryz.prog f1 fn1 ex1 (gmed f2) grmed) (hf2 : Fn_ Tryz.prog f2 fn2 ex2 gord2 grord2) (hcmp : CmpOK cv D lt) {σ : List O} {id ver n a sid : Nat} {s : Int} {F : Nat → V} (hD : ∀ k, k < n → D (F k)) (ha : a + 2 < n) (hn : n ≤ 1000000) (hid : id ≠ sid) (hσ : σ[id]? = some (.row ver (rowV n F))) (hs : σ[sid]? = some (.row 0 [.i .i64 s])) :
  FSpecQ Tryz.prog f [slV id ver n, .i .i64 ((a + 1 : Nat) : Int), .p sid 0 0, cv] σ (fun v σ' => ∃ (x : Nat) (t : Int), v = .i .i64 x ∧ a ≤ x ∧ x ≤ a + 2 ∧ CA σ sid t σ') := by
 refine hf.specQ mixed noIt_ok ?_
 rw [gmadj]
 refine ab_seq_k fun K1 h1 => ?_
 simp
 refine h1 _ _ _ ?_
 clear h1 K1
 refine ab_seq_k fun K2 h2 => ?_
 simp [wrap64 (x := (a : Int)) (by omega) (by omega), wrap64 (x := (a : Int) + 1 + 1) (by omega) (by omega)]
 refine callR_of (med_ok hf1 hf2 hcmp (a := a) (b := a + 1) (c := a + 1 + 1) hD (by omega) (by omega) (by omega) hid hσ hs) ?_
 rintro v σ1 ⟨x1, t1, rfl, hx, k1⟩
 simp
 refine h2 _ _ _ ?_
 simp
 refine fin_Q ?_
 simp [grmadj]
 exact ⟨x1, rfl, by omega, by omega, t1, k1⟩
theorem piv_ok {f f0 f1 f2 : FuncId} {fn fn0 fn1 fn2 : Func} {ex ex0 ex1 ex2 : List Nat} (hf : Fn_ Tryz.prog f fn ex (gpiv f0 f1) grpiv) (hf0 : Fn_ Tryz.prog f0 fn0 ex0 (gmadj f1) grmadj) (hf1 : Fn_ Tryz.prog f1 fn1 ex1 (gmed f2) grmed) (hf2 : Fn_ Tryz.prog f2 fn2 ex2 gord2 grord2) (hcmp : CmpOK cv D lt) {σ : List O} {id ver n a b : Nat} {F : Nat → V} (hD : ∀ k, k < n → D (F k)) (hab : a + 8 ≤ b) (hbn : b ≤ n) (hn : n ≤ 1000000) (hσ : σ[id]? = some (.row ver (rowV n F))) :
  FSpecQ Tryz.prog f [slV id ver n, .i .i64 a, .i .i64 b, cv] σ (fun v σ' => ∃ (x : Nat) (h : Int), v = .tup [.i .i64 x, .i .i64 h] ∧ a ≤ x ∧ x < b ∧ σ' = σ) := by
 have hidl := (List.getElem?_eq_some_iff.1 hσ).1
 refine hf.specQ mixed noIt_ok ?_
 rw [gpiv]
 refine ab_seq_k fun K1 h1 => ?_
 simp
 refine h1 _ _ _ ?_
 clear h1 K1
 obtain ⟨l, hl⟩ : ∃ l, l = b - a := ⟨_, rfl⟩
 obtain ⟨q, hq⟩ : ∃ q, q = l / 4 := ⟨_, rfl⟩
 have e1 : IntKind.i64.wrap ((b : Int) - a) = l := by rw [wrap64 (by omega) (by omega)]; omega
 have e2 : IntKind.i64.wrap ((l : Int).tdiv 4) = q := by
  have : (l : Int).tdiv 4 = ((l / 4 : Nat) : Int) := rfl
  rw [this, wrap64 (by omega) (by omega), hq]
 have e2' : IntKind.i64.wrap ((l : Int) / 4) = q := by rw [wrap64 (by omega) (by omega)]; omega
 have e0 : IntKind.i64.wrap (q : Int) = q := wrap64 (by omega) (by omega)
 obtain ⟨i, hi⟩ : ∃ i, i + 1 = a + q := ⟨a + q - 1, by omega⟩
 obtain ⟨j, hj⟩ : ∃ j, j + 1 = a + q * 2 := ⟨a + q * 2 - 1, by omega⟩
 obtain ⟨k, hk⟩ : ∃ k, k + 1 = a + q * 3 := ⟨a + q * 3 - 1, by omega⟩
 have e3 : IntKind.i64.wrap ((a : Int) + q) = ((i + 1 : Nat) : Int) := by rw [wrap64 (by omega) (by omega)]; omega
 have e4 : IntKind.i64.wrap ((q : Int) * 2) = (q : Int) * 2 := wrap64 (by omega) (by omega)
 have e5 : IntKind.i64.wrap ((q : Int) * 3) = (q : Int) * 3 := wrap64 (by omega) (by omega)
 have e6 : IntKind.i64.wrap ((a : Int) + (q : Int) * 2) = ((j + 1 : Nat) : Int) := by rw [wrap64 (by omega) (by omega)]; omega
 have e7 : IntKind.i64.wrap ((a : Int) + (q : Int) * 3) = ((k + 1 : Nat) : Int) := by rw [wrap64 (by omega) (by omega)]; omega
 simp only [Int.natCast_add, Int.natCast_one] at e3 e6 e7
 refine ab_seq_k fun K2 h2 => ?_
 simp [e1]
 refine h2 _ _ _ ?_
 clear h2 K2
 refine ab_seq_k fun K3 h3 => ?_
 simp
 refine h3 _ _ _ ?_
 clear h3 K3
 have s0 := getL (g := [O.row 0 [V.i .i64 0]]) hσ
 have s1 : (σ ++ [O.row 0 [V.i .i64 0]])[σ.length]? = some (O.row 0 [V.i .i64 0]) := by simp
 have hca : CA (σ ++ [O.row 0 [V.i .i64 0]]) σ.length 0 (σ ++ [O.row 0 [V.i .i64 0]]) := CA.mk0 s1
 have hne : id ≠ σ.length := by omega
 refine ab_seq_k fun K4 h4 => ?_
 simp [e2, e2', e0, e3]
 refine h4 _ _ _ ?_
 clear h4 K4
 refine ab_seq_k fun K5 h5 => ?_
 simp [e2, e2', e4, e6]
 refine h5 _ _ _ ?_
 clear h5 K5
 refine ab_seq_k fun K6 h6 => ?_
 simp [e2, e2', e5, e7]
 refine h6 _ _ _ ?_
 clear h6 K6
 refine ab_seq_k fun K7 h7 => ?_
 refine ab_seq_k fun K8 h8 => ?_
 simp
 refine h8 _ _ _ ?_
 clear h8 K8
 refine ab_cond_of rfl (fun _ => ?_) (fun h => by simp at h; omega)
 have hK7 : ∀ env (x : Nat) (s : Int) τ, get env 11 = .p σ.length 0 0 → get env 13 = .i .i64 x → a ≤ x → x < b → CA (σ ++ [O.row 0 [V.i .i64 0]]) σ.length s τ → K7 (some 0) env τ := by
  intro env x s τ w11 w13 hx1 hx2 hca
  have hτ : τ = σ ++ [O.row 0 [V.i .i64 s]] := by rw [hca.is_]; simp
  have hat := hca.at_
  obtain ⟨hat1, hat'⟩ := List.getElem?_eq_some_iff.1 hat
  refine h7 _ _ _ ?_
  clear h7
  refine ab_seq_k fun K9 h9 => ?_
  simp [w11, w13, hat, hat']
  refine h9 _ _ _ ?_
  clear h9 K9
  refine ab_block_k fun K10 h10 => ?_
  refine ab_seq_k fun K11 h11 => ?_
  simp
  refine h11 _ _ _ ?_
  clear h11 K11
  by_cases h0 : s = 0
  ·refine ab_cond_of rfl (fun _ => ?_) (fun h => by simp [h0] at h)
   refine ab_seq_k fun K12 h12 => ?_
   simp
   refine h12 _ _ _ ?_
   clear h12 K12
   rw [hτ]
   simp
   refine finQ_cut ?_
   simp [grpiv]
   exact ⟨x, rfl, hx1, hx2⟩
  ·refine ab_cond_of rfl (fun h => by simp [h0] at h) (fun _ => ?_)
   refine ab_seq_k fun K13 h13 => ?_
   simp
   refine h13 _ _ _ ?_
   by_cases h12 : s = 12
   ·refine ab_cond_of rfl (fun _ => ?_) (fun h => by simp [h12] at h)
    refine ab_seq_k fun K12 h12 => ?_
    simp
    refine h12 _ _ _ ?_
    clear h12 K12
    rw [hτ]
    simp
    refine finQ_cut ?_
    simp [grpiv]
    exact ⟨x, rfl, hx1, hx2⟩
   ·refine ab_cond_of rfl (fun h => by simp [h12] at h) (fun _ => ?_)
    refine ab_seq_k fun K12 h12 => ?_
    simp
    refine h12 _ _ _ ?_
    clear h12 K12
    rw [hτ]
    simp
    refine finQ_cut ?_
    simp [grpiv]
    exact ⟨x, rfl, hx1, hx2⟩
 clear h7
 refine ab_seq_k fun K14 h14 => ?_
 have hK14 : ∀ env (x y z : Nat) (s : Int) τ, get env 0 = slV id ver n → get env 3 = cv → get env 11 = .p σ.length 0 0 → get env 12 = .i .i64 x → get env 13 = .i .i64 y → get env 14 = .i .i64 z → (a ≤ x ∧ x < b) → (a ≤ y ∧ y < b) → (a ≤ z ∧ z < b) → CA (σ ++ [O.row 0 [V.i .i64 0]]) σ.length s τ → K14 (some 0) env τ := by
  intro env x y z s τ w0 w3 w11 w12 w13 w14 hx hy hz hca
  refine h14 _ _ _ ?_
  simp [w0, w3, w11, w12, w13, w14]
  refine callR_of (med_ok hf1 hf2 hcmp (a := x) (b := y) (c := z) (s := s) hD (by omega) (by omega) (by omega) hne (by rw [hca.other hne]; exact s0) hca.at_) ?_
  rintro v τ2 ⟨x1, t1, rfl, hx1, k1⟩
  simp
  exact hK7 _ x1 t1 _ (by simp [w11]) rfl (by omega) (by omega) (hca.trans k1)
 clear h14 hK7
 refine ab_seq_k fun K15 h15 => ?_
 simp
 refine h15 _ _ _ ?_
 clear h15 K15
 by_cases h50 : 50 ≤ l
 ·refine ab_cond_of rfl (fun _ => ?_) (fun h => by simp at h; omega)
  refine ab_seq_k fun K16 h16 => ?_
  simp
  refine callR_of (madj_ok hf0 hf1 hf2 hcmp (a := i) (s := 0) hD (by omega) hn hne s0 s1) ?_
  rintro v τ1 ⟨x1, t1, rfl, hx1, hx1', k1⟩
  simp
  refine h16 _ _ _ ?_
  clear h16 K16
  refine ab_seq_k fun K16 h16 => ?_
  simp
  refine callR_of (madj_ok hf0 hf1 hf2 hcmp (a := j) (s := t1) hD (by omega) hn hne (by rw [k1.other hne]; exact s0) k1.at_) ?_
  rintro v τ2 ⟨x2, t2, rfl, hx2, hx2', k2⟩
  simp
  refine h16 _ _ _ ?_
  clear h16 K16
  have k12 := k1.trans k2
  simp
  refine callR_of (madj_ok hf0 hf1 hf2 hcmp (a := k) (s := t2) hD (by omega) hn hne (by rw [k12.other hne]; exact s0) k12.at_) ?_
  rintro v τ3 ⟨x3, t3, rfl, hx3, hx3', k3⟩
  simp
  exact hK14 _ x1 x2 x3 t3 _ rfl rfl rfl rfl rfl rfl (by omega) (by omega) (by omega) (k12.trans k3)
 ·refine ab_cond_of rfl (fun h => by simp at h; omega) (fun _ => ?_)
  simp
  exact hK14 _ (i + 1) (j + 1) (k + 1) 0 _ rfl rfl rfl rfl rfl rfl (by omega) (by omega) (by omega) hca
end
end Go.Ab
end
section
namespace Go.Ab
open Go Go.Proofs
theorem sidx_tab {s : ByteArray} {n : Nat} {k : IntKind} {b : UInt8} {K : V → Prop} (h : s[n]? = some b) (hK : K (.i .u8 b.toNat)) : sidxK (.str s) (.i k (n : Int)) K := by
 refine ⟨by omega, ?_⟩
 rw [Int.toNat_natCast, h]
 exact hK
def tabL : ByteArray := ⟨#[0, 1, 2, 2, 3, 3, 3, 3, 4, 4, 4, 4, 4, 4, 4, 4, 5, 5, 5, 5, 5, 5, 5, 5, 5, 5, 5, 5, 5, 5, 5, 5, 6, 6, 6, 6, 6, 6, 6, 6, 6, 6, 6, 6, 6, 6, 6, 6, 6, 6, 6, 6, 6, 6, 6, 6, 6, 6, 6, 6, 6, 6, 6, 6, 7, 7, 7, 7, 7, 7, 7, 7, 7, 7, 7, 7, 7, 7, 7, 7, 7, 7, 7, 7, 7, 7, 7, 7, 7, 7, 7, 7, 7, 7, 7, 7, 7, 7, 7, 7, 7, 7, 7, 7, 7, 7, 7, 7, 7, 7, 7, 7, 7, 7, 7, 7, 7, 7, 7, 7, 7, 7, 7, 7, 7, 7, 7, 7, 8, 8, 8, 8, 8, 8, 8, 8, 8, 8, 8, 8, 8, 8, 8, 8, 8, 8, 8, 8, 8, 8, 8, 8, 8, 8, 8, 8, 8, 8, 8, 8, 8, 8, 8, 8, 8, 8, 8, 8, 8, 8, 8, 8, 8, 8, 8, 8, 8, 8, 8, 8, 8, 8, 8, 8, 8, 8, 8, 8, 8, 8, 8, 8, 8, 8, 8, 8, 8, 8, 8, 8, 8, 8, 8, 8, 8, 8, 8, 8, 8, 8, 8, 8, 8, 8, 8, 8, 8, 8, 8, 8, 8, 8, 8, 8, 8, 8, 8, 8, 8, 8, 8, 8, 8, 8, 8, 8, 8, 8, 8, 8, 8, 8, 8, 8, 8, 8, 8, 8, 8, 8, 8, 8, 8, 8, 8, 8]⟩
theorem tabL_all : ((List.range 256).all fun n => match tabL[n]? with | some b => decide (b.toNat ≤ 8 ∧ n < 2 ^ b.toNat ∧ (n = 0 ∨ 2 ^ b.toNat ≤ 2 * n)) | none => false) = true := by decide +kernel
theorem tabL_at {n : Nat} (h : n < 256) : ∃ b, tabL[n]? = some b ∧ b.toNat ≤ 8 ∧ n < 2 ^ b.toNat ∧ (n = 0 ∨ 2 ^ b.toNat ≤ 2 * n) := by
 have := List.all_eq_true.1 tabL_all n (List.mem_range.2 h)
 split at this
 ·rename_i b hb
  exact ⟨b, hb, of_decide_eq_true this⟩
 ·cases this
theorem len131 {x : Nat} {σ : List O} (hx : x < 65536) : ∃ L : Nat, FSpec Tryz.prog 131 [.i .u64 x] σ (.i .i64 L) σ ∧ L ≤ 16 ∧ x < 2 ^ L ∧ (x = 0 ∨ 2 ^ L ≤ 2 * x) := by
 have hu8 : ∀ y : Nat, y < 256 → IntKind.u8.wrap (y : Int) = y := fun y hy => by
  simp [IntKind.wrap, IntKind.bits, IntKind.signed]
  omega
 by_cases h8 : x < 256
 ·obtain ⟨b, e, h1, h2, h3⟩ := tabL_at h8
  refine ⟨b.toNat, FSpec.frame (σ := σ) ?_ rfl rfl, by omega, h2, h3⟩
  refine fn131.spec0 mixed noIt_ok ?_
  rw [ic131]
  refine ab_seq_k fun K1 h1 => ?_
  simp
  refine h1 _ _ _ ?_
  clear h1 K1
  refine ab_seq_k fun K2 h2 => ?_
  refine ab_seq_k fun K3 h3 => ?_
  simp
  refine h3 _ _ _ ?_
  clear h3 K3
  refine ab_cond_of rfl (fun h => by simp at h; omega) (fun _ => ?_)
  simp
  refine h2 _ _ _ ?_
  clear h2 K2
  refine ab_seq_k fun K2 h2 => ?_
  refine ab_seq_k fun K3 h3 => ?_
  simp
  refine h3 _ _ _ ?_
  clear h3 K3
  refine ab_cond_of rfl (fun h => by simp at h; omega) (fun _ => ?_)
  simp
  refine h2 _ _ _ ?_
  clear h2 K2
  refine ab_seq_k fun K2 h2 => ?_
  refine ab_seq_k fun K3 h3 => ?_
  simp
  refine h3 _ _ _ ?_
  clear h3 K3
  refine ab_cond_of rfl (fun h => by simp at h; omega) (fun _ => ?_)
  simp
  refine h2 _ _ _ ?_
  clear h2 K2
  refine ab_seq_k fun K2 h2 => ?_
  simp [hu8 x h8]
  refine sidx_tab e ?_
  simp [wrap64 (x := (b.toNat : Int)) (by omega) (by omega)]
  refine h2 _ _ _ ?_
  simp
  exact fin_of 1 (by simp [rs131])
 ·have hs8 : x >>> 8 < 256 := by rw [Nat.shiftRight_eq_div_pow]; omega
  have hd : x >>> 8 = x / 256 := Nat.shiftRight_eq_div_pow x 8
  obtain ⟨b, e, g1, g2, g3⟩ := tabL_at hs8
  have hsh : (x : Int).fdiv 256 = ((x >>> 8 : Nat) : Int) := by rw [hd]; exact Int.fdiv_eq_ediv_of_nonneg _ (by omega)
  have hpw : 2 ^ (8 + b.toNat) = 256 * 2 ^ b.toNat := by rw [Nat.pow_add]
  have b1 : x < 2 ^ (8 + b.toNat) := by
   rw [hpw]
   rw [hd] at g2
   generalize 2 ^ b.toNat = pw at *
   omega
  have b2 : 2 ^ (8 + b.toNat) ≤ 2 * x := by
   rw [hpw]
   rw [hd] at g3
   omega
  refine ⟨8 + b.toNat, FSpec.frame (σ := σ) ?_ rfl rfl, by omega, b1, .inr b2⟩
  refine fn131.spec0 mixed noIt_ok ?_
  rw [ic131]
  refine ab_seq_k fun K1 h1 => ?_
  simp
  refine h1 _ _ _ ?_
  clear h1 K1
  refine ab_seq_k fun K2 h2 => ?_
  refine ab_seq_k fun K3 h3 => ?_
  simp
  refine h3 _ _ _ ?_
  clear h3 K3
  refine ab_cond_of rfl (fun h => by simp at h; omega) (fun _ => ?_)
  simp
  refine h2 _ _ _ ?_
  clear h2 K2
  refine ab_seq_k fun K2 h2 => ?_
  refine ab_seq_k fun K3 h3 => ?_
  simp
  refine h3 _ _ _ ?_
  clear h3 K3
  refine ab_cond_of rfl (fun h => by simp at h; omega) (fun _ => ?_)
  simp
  refine h2 _ _ _ ?_
  clear h2 K2
  refine ab_seq_k fun K2 h2 => ?_
  refine ab_seq_k fun K3 h3 => ?_
  simp
  refine h3 _ _ _ ?_
  clear h3 K3
  refine ab_cond_of rfl (fun _ => ?_) (fun h => by simp at h; omega)
  refine ab_seq_k fun K4 h4 => ?_
  have hb64 : IntKind.u64.bits = 64 := rfl
  simp [hb64]
  rw [hsh]
  generalize x >>> 8 = y at *
  refine h4 _ _ _ ?_
  clear h4 K4
  have w8 : IntKind.i64.wrap 8 = 8 := wrap64 (by omega) (by omega)
  simp [w8]
  refine h2 _ _ _ ?_
  clear h2 K2
  refine ab_seq_k fun K2 h2 => ?_
  simp [hu8 _ hs8]
  refine sidx_tab e ?_
  simp [wrap64 (x := (b.toNat : Int)) (by omega) (by omega), wrap64 (x := 8 + (b.toNat : Int)) (by omega) (by omega)]
  refine h2 _ _ _ ?_
  simp
  exact fin_of 1 (by simp [rs131])
theorem len119 {x : Nat} {σ : List O} (hx : x < 65536) : ∃ L : Nat, FSpec Tryz.prog 119 [.i .u64 x] σ (.i .i64 L) σ ∧ L ≤ 16 ∧ x < 2 ^ L ∧ (x = 0 ∨ 2 ^ L ≤ 2 * x) := by
 obtain ⟨L, h, h1⟩ := len131 (σ := []) hx
 refine ⟨L, FSpec.frame (σ := σ) ?_ rfl rfl, h1⟩
 refine fn119.spec0 mixed noIt_ok ?_
 rw [ic119]
 refine ab_seq_k fun K1 h1 => ?_
 simp
 refine h1 _ _ _ ?_
 clear h1 K1
 refine ab_seq_k fun K2 h2 => ?_
 refine ab_cond_of rfl (fun h => by cases h) (fun _ => ?_)
 simp
 refine h2 _ _ _ ?_
 refine ab_seq_k fun K3 h3 => ?_
 simp
 refine callK_of (h) ?_
 simp
 refine h3 _ _ _ ?_
 clear h3 K3
 simp
 exact fin_of 1 (by simp [rs119])
theorem wrapu64 {x : Int} (h1 : 0 ≤ x) (h2 : x < 18446744073709551616) : IntKind.u64.wrap x = x := by
 simp [IntKind.wrap, IntKind.bits, IntKind.signed]
 omega
theorem np141 {l : Nat} {σ : List O} (h1 : 1 ≤ l) (h2 : l < 65536) : ∃ M : Nat, FSpec Tryz.prog 141 [.i .i64 l] σ (.i .u64 M) σ ∧ l < M ∧ M ≤ 2 * l := by
 obtain ⟨L, h, hL, h3, h4⟩ := len119 (σ := []) h2
 have h4 := h4.resolve_left (by omega)
 refine ⟨2 ^ L, FSpec.frame (σ := σ) ?_ rfl rfl, h3, h4⟩
 refine FSpecQ.point ?_
 refine gf141.specQ mixed noIt_ok ?_
 rw [gnp]
 refine ab_seq_k fun K1 h1 => ?_
 simp
 refine h1 _ _ _ ?_
 clear h1 K1
 refine ab_seq_k fun K2 h2 => ?_
 have hw : IntKind.u64.wrap (2 ^ (min L 64)) = ((2 ^ L : Nat) : Int) := by
  rw [Nat.min_eq_left (by omega)]
  have e : ((2 : Int) ^ L) = ((2 ^ L : Nat) : Int) := by simp
  rw [e]
  exact wrapu64 (by omega) (by omega)
 have hb : IntKind.u64.bits = 64 := rfl
 generalize 2 ^ L = M at *
 simp [wrapu64 (x := (l : Int)) (by omega) (by omega)]
 refine callR_of h.toQ ?_
 rintro v σ' ⟨rfl, rfl⟩
 simp [hb]
 rw [hw]
 refine h2 _ _ _ ?_
 simp
 refine fin_Q ?_
 simp [rs141]
theorem next142 {rid : Nat} {r : Int} {σ : List O} (hs : σ[rid]? = some (.row 0 [.i .u64 r])) : FSpecQ Tryz.prog 142 [.p rid 0 0] σ (fun v σ' => ∃ r r2 : Int, v = .i .u64 r ∧ σ' = σ.set rid (.row 0 [.i .u64 r2])) := by
 refine fn142.specQ mixed noIt_ok ?_
 rw [ic142]
 refine ab_seq_k fun K1 h1 => ?_
 simp
 refine h1 _ _ _ ?_
 clear h1 K1
 obtain ⟨hs1, hs'⟩ := List.getElem?_eq_some_iff.1 hs
 have hset : ∀ c, (σ.set rid c)[rid]? = some c := fun c => List.getElem?_set_self hs1
 refine ab_seq_k fun K2 h2 => ?_
 simp [abDs_consU, drU, recheck_cons, recheck_nil, rcK, IS.dst, hs, hs', hset]
 refine h2 _ _ _ ?_
 clear h2 K2
 generalize bitop BinOp.xor _ _ _ = r1
 refine ab_seq_k fun K2 h2 => ?_
 simp [abDs_consU, drU, recheck_cons, recheck_nil, rcK, IS.dst, hset, hs1]
 refine h2 _ _ _ ?_
 clear h2 K2
 generalize bitop BinOp.xor _ _ _ = r2
 refine ab_seq_k fun K2 h2 => ?_
 simp [abDs_consU, drU, recheck_cons, recheck_nil, rcK, IS.dst, hset, hs1]
 refine h2 _ _ _ ?_
 clear h2 K2
 generalize bitop BinOp.xor _ _ _ = r3
 refine ab_seq_k fun K2 h2 => ?_
 simp [hset, hs1]
 refine h2 _ _ _ ?_
 simp
 refine fin_Q ?_
 simp [rs142]
 exact ⟨r3, rfl⟩
theorem and_u64 {r : Int} {m : Nat} (hm : m < 1000000) : ∃ o : Nat, bitop .and .u64 r (m : Int) = (o : Int) ∧ o ≤ m := by
 have e : (BitVec.ofInt IntKind.u64.bits (m : Int)).toNat = m := by
  simp [IntKind.bits]
  omega
 refine ⟨(BitVec.ofInt IntKind.u64.bits r &&& BitVec.ofInt IntKind.u64.bits (m : Int)).toNat, ?_, ?_⟩
 ·unfold bitop
  simp only
  have h1 : (BitVec.ofInt IntKind.u64.bits r &&& BitVec.ofInt IntKind.u64.bits (m : Int)).toNat ≤ m := by
   rw [BitVec.toNat_and, e]
   exact Nat.and_le_right
  exact wrapu64 (by omega) (by omega)
 ·rw [BitVec.toNat_and, e]
  exact Nat.and_le_right
theorem Fn_.specQL {P : Program} {It : ItTy} (hm : P.follows .mixedOrders = true) (hIt : ItOK P It) {f : FuncId} {fn : Func} {ex : List Nat} {ic : IC} {rs : List IRes} (h : Fn_ P f fn ex ic rs)
  {args : List V} {σ : List O} {Q : V → List O → Prop} (hab : LtAll σ → ab P noY It σ.length ic (finQ rs σ Q) [] (finQ rs σ Q) (some 0) (entry 0 args) σ) : FSpecQ P f args σ Q := by
 refine ⟨⟨fn, h.hf, h.hn, ?_⟩, fun C cargs hR ha => (h.specQ hm hIt (hab hR.ltAll)).2 C cargs hR ha⟩
 have hc := h.hc
 cases hb : fn.body with
 | none => rw [hb] at hc; cases hc
 | some c => rfl
theorem DA.ltAll {σ0 σ : List O} {id ver n a b : Nat} {F G : Nat → V} (h : DA σ0 id ver n G σ) (hl : LtAll σ0) (hF : σ0[id]? = some (.row ver (rowV n F))) (hsw : Sw a b F G) (hb : b ≤ n) : LtAll σ := by
 rw [h.is_]
 intro o ho
 rw [List.length_set]
 rcases List.mem_or_eq_of_mem_set ho with h1 | h1
 ·exact hl o h1
 ·subst h1
  intro x hx
  have hx2 := (hsw.perm hb).mem_iff.1 hx
  exact hl _ (List.mem_of_getElem? hF) x hx2
theorem finQ_drop {rs : List IRes} {σ0 A g : List O} {Q : V → List O → Prop} {md : Md} {env : Env} (hA : LtAll A) (hl : A.length = σ0.length) (h : resK rs env (A ++ g) fun vs => Q (retV vs) A ∧ (retV vs).pure = true) : finQ rs σ0 Q md env (A ++ g) := by
 intro _
 obtain ⟨k0, hk0⟩ := hA.cut
 exact resK_mono h fun vs h => ⟨_, _, h.1, .inl ⟨k0 + 1, A.length, by omega, by simp, frz_pure h.2, .inl (hk0 (k0 + 1) (by omega) g)⟩⟩
section
variable {cv : V} {D : V → Prop} {lt : V → V → Bool}
theorem brk_ok {f : FuncId} {fn : Func} {ex : List Nat} (hf : Fn_ Tryz.prog f fn ex gbrk grbrk) (hcmp : CmpOK cv D lt) {σ : List O} {id ver n a b : Nat} {F : Nat → V} (hD : ∀ k, k < n → D (F k)) (hab : a + 8 ≤ b) (hbn : b ≤ n) (hn : n ≤ 60000) (hσ : σ[id]? = some (.row ver (rowV n F))) :
  FSpecQ Tryz.prog f [slV id ver n, .i .i64 a, .i .i64 b, cv] σ (SwQ σ id ver n a b F (fun _ => True) (.tup [])) := by
 have hidl := (List.getElem?_eq_some_iff.1 hσ).1
 refine hf.specQL mixed noIt_ok (fun hlt => ?_)
 rw [gbrk]
 obtain ⟨l, hl⟩ : ∃ l, l = b - a := ⟨_, rfl⟩
 obtain ⟨q, hq⟩ : ∃ q, q = l / 4 := ⟨_, rfl⟩
 have e1 : IntKind.i64.wrap ((b : Int) - a) = l := by rw [wrap64 (by omega) (by omega)]; omega
 have e2 : IntKind.i64.wrap ((l : Int).tdiv 4) = q := by
  have : (l : Int).tdiv 4 = ((l / 4 : Nat) : Int) := rfl
  rw [this, wrap64 (by omega) (by omega), hq]
 have e2' : IntKind.i64.wrap ((l : Int) / 4) = q := by rw [wrap64 (by omega) (by omega)]; omega
 have e4 : IntKind.i64.wrap ((q : Int) * 2) = (q : Int) * 2 := wrap64 (by omega) (by omega)
 obtain ⟨x0, hx0⟩ : ∃ x, x = a + q * 2 - 1 := ⟨_, rfl⟩
 have e5 : IntKind.i64.wrap ((a : Int) + (q : Int) * 2) = (x0 : Int) + 1 := by rw [wrap64 (by omega) (by omega)]; omega
 have e6 : IntKind.i64.wrap ((x0 : Int) + 1 - 1) = x0 := by rw [wrap64 (by omega) (by omega)]; omega
 have e6' : IntKind.i64.wrap (x0 : Int) = x0 := wrap64 (by omega) (by omega)
 have e7 : IntKind.i64.wrap ((x0 : Int) + 1 + 1) = (x0 : Int) + 1 + 1 := wrap64 (by omega) (by omega)
 refine ab_seq_k fun K1 h1 => ?_
 simp [e1]
 refine h1 _ _ _ ?_
 clear h1 K1
 refine ab_seq_k fun K2 h2 => ?_
 simp
 refine h2 _ _ _ ?_
 clear h2 K2
 refine ab_cond_of rfl (fun _ => ?_) (fun h => by simp at h; omega)
 refine ab_seq_k fun K3 h3 => ?_
 simp [wrapu64 (x := (l : Int)) (by omega) (by omega)]
 refine h3 _ _ _ ?_
 clear h3 K3
 obtain ⟨M, hM, hM1, hM2⟩ := np141 (l := l) (σ := σ ++ [O.row 0 [V.i .u64 l]]) (by omega) (by omega)
 refine ab_seq_k fun K4 h4 => ?_
 simp
 refine callR_of hM.toQ ?_
 rintro v σ' ⟨rfl, rfl⟩
 simp
 refine h4 _ _ _ ?_
 clear h4 K4 hM
 refine ab_seq_k fun K5 h5 => ?_
 simp [e2, e2', e4, e5, e6, e6']
 refine h5 _ _ _ ?_
 clear h5 K5
 refine ab_block_k fun K6 h6 => ?_
 refine ab_loop_k (fun m env σ' => ∃ (t : Nat) (G : Nat → V) (A : List O) (r : Int), t + m = 3 ∧ env = [(0, slV id ver n), (1, .i .i64 a), (8, .i .i64 l), (9, .p σ.length 0 0), (10, .i .u64 M), (11, .i .i64 ((x0 + t : Nat) : Int))] ∧ Sw a b F G ∧ DA σ id ver n G A ∧ σ' = A ++ [.row 0 [.i .u64 r]]) 3 ⟨0, F, σ, l, rfl, by simp, .refl F, DA.mk0 hσ, rfl⟩ ?_
 rintro m env σ' ⟨t, G, A, r, ht, rfl, hsw, hda, rfl⟩ K7 h7
 have hAl : A.length = σ.length := by rw [hda.is_]; simp
 have hGD := fun k hk => hsw.alln hbn hD (k := k) hk
 rw [gbrk_0]
 obtain ⟨xt, hxt⟩ : ∃ x, x = x0 + t := ⟨_, rfl⟩
 rw [← hxt]
 refine ab_seq_k fun K8 h8 => ?_
 refine ab_seq_k fun K9 h9 => ?_
 simp [e2, e2', e4, e5, e7]
 refine h9 _ _ _ ?_
 clear h9 K9
 by_cases ht3 : t < 3
 ·have z0 : (xt : Int) ≤ (x0 : Int) + 1 + 1 := by omega
  refine ab_cond_of rfl (fun _ => ?_) (fun h => by simp [z0] at h)
  simp
  refine h8 _ _ _ ?_
  clear h8 K8
  refine ab_seq_k fun K10 h10 => ?_
  refine ab_block_k fun K11 h11 => ?_
  have hcell : (A ++ [O.row 0 [V.i .u64 r]])[σ.length]? = some (O.row 0 [V.i .u64 r]) := by rw [← hAl]; simp
  have hset : ∀ r2 : Int, (A ++ [O.row 0 [V.i .u64 r]]).set σ.length (O.row 0 [V.i .u64 r2]) = A ++ [O.row 0 [V.i .u64 r2]] := fun r2 => by rw [← hAl]; simp
  refine ab_seq_k fun K12 h12 => ?_
  simp
  refine callR_of (next142 hcell) ?_
  rintro v σ' ⟨r1, r2, rfl, rfl⟩
  rw [hset]
  obtain ⟨o, ho, hom⟩ := and_u64 (r := r1) (m := M - 1) (by omega)
  have hM3 : IntKind.u64.wrap ((M : Int) - 1) = ((M - 1 : Nat) : Int) := by rw [wrapu64 (by omega) (by omega)]; omega
  simp [hM3]
  rw [ho]
  simp [wrap64 (x := (o : Int)) (by omega) (by omega)]
  refine h12 _ _ _ ?_
  clear h12 K12 hcell hset
  have hat := getL (g := [O.row 0 [V.i .u64 r2]]) hda.at_
  have hal : id < A.length := by omega
  have hst : ∀ c, (A ++ [O.row 0 [V.i .u64 r2]]).set id c = A.set id c ++ [O.row 0 [V.i .u64 r2]] := fun c => by rw [List.set_append_left _ _ hal]
  obtain ⟨hat1, hat'⟩ := List.getElem?_eq_some_iff.1 hat
  have hs1 : ∀ c, ((A ++ [O.row 0 [V.i .u64 r2]]).set id c)[id]? = some c := fun c => List.getElem?_set_self hat1
  refine ab_seq_k fun K13 h13 => ?_
  have hK13 : ∀ env (o : Nat), get env 0 = slV id ver n → get env 1 = .i .i64 a → get env 8 = .i .i64 l → get env 9 = .p σ.length 0 0 → get env 10 = .i .u64 M → get env 11 = .i .i64 xt → get env 12 = .i .i64 o → o < l → K13 (some 0) env (A ++ [O.row 0 [V.i .u64 r2]]) := by
   intro env o w0 w1 w8 w9 w10 w11 w12 hol
   refine h13 _ _ _ ?_
   clear h13
   obtain ⟨y, hy⟩ : ∃ y, y = a + o := ⟨_, rfl⟩
   have ey : IntKind.i64.wrap ((a : Int) + o) = y := by rw [wrap64 (by omega) (by omega)]; omega
   have hyn : y < n := by omega
   have hxn : xt < n := by omega
   have c1 := hcmp.one _ (hGD _ hxn)
   have c2 := hcmp.one _ (hGD _ hyn)
   generalize hT : A ++ [O.row 0 [V.i .u64 r2]] = T at *
   simp [abDs_consU, drU, recheck_cons, recheck_nil, rcK, IS.dst, w0, w1, w8, w9, w10, w11, w12, ey, hat, hat', hxn, hyn, rowV_get, hs1, c1, c2]
   rw [rowV_swp, hst]
   refine h11 _ _ _ (h10 _ _ _ ?_)
   simp [wrap64 (x := (xt : Int) + 1) (by omega) (by omega)]
   refine h7 _ _ _ (again (m - 1) (by omega) ⟨t + 1, swp G xt y, A.set id (.row ver (rowV n (swp G xt y))), r2, by omega, ?_, .step _ _ hsw (by omega) (by omega) (by omega) (by omega), hda.put, rfl⟩)
   have : ((x0 + (t + 1) : Nat) : Int) = (xt : Int) + 1 := by omega
   rw [this]
   simp [w0, w1, w8, w9, w10]
  clear h13
  refine ab_seq_k fun K14 h14 => ?_
  simp
  refine h14 _ _ _ ?_
  by_cases hol : l ≤ o
  ·refine ab_cond_of rfl (fun _ => ?_) (fun h => by simp at h; omega)
   have eo : IntKind.i64.wrap ((o : Int) - l) = ((o - l : Nat) : Int) := by rw [wrap64 (by omega) (by omega)]; omega
   simp [eo]
   exact hK13 _ (o - l) rfl rfl rfl rfl rfl rfl rfl (by omega)
  ·refine ab_cond_of rfl (fun h => by simp at h; omega) (fun _ => ?_)
   simp
   exact hK13 _ o rfl rfl rfl rfl rfl rfl rfl (by omega)
 ·have z0 : ¬ (xt : Int) ≤ (x0 : Int) + 1 + 1 := by omega
  refine ab_cond_of rfl (fun h => by simp [z0] at h) (fun _ => ?_)
  simp
  refine h6 _ _ _ ?_
  refine finQ_drop (hda.ltAll hlt hσ hsw hbn) hAl ?_
  simp [grbrk]
  exact ⟨rfl, G, hsw, trivial, hda⟩
end
end Go.Ab
end
end
section
namespace Go.Ab
open Go Go.Proofs
section
variable {cv : V} {D : V → Prop} {lt : V → V → Bool}
def Out (lt : V → V → Bool) (a b a' b' : Nat) (G : Nat → V) : Prop := ∀ p q, a ≤ p → p < q → q < b → (p < a' ∨ b' ≤ q) → lt (G q) (G p) = false
theorem Sw.src' {a b : Nat} {G H : Nat → V} (hs : Sw a b G H) (k : Nat) : ∃ k', H k = G k' ∧ ((a ≤ k ∧ k < b ∧ a ≤ k' ∧ k' < b) ∨ k' = k ∧ (k < a ∨ b ≤ k)) := by
 by_cases hk : a ≤ k ∧ k < b
 ·obtain ⟨k', k1, k2, e⟩ := hs.src hk.1 hk.2
  exact ⟨k', e, .inl ⟨hk.1, hk.2, k1, k2⟩⟩
 ·exact ⟨k, hs.out (by omega), .inr ⟨rfl, by omega⟩⟩
theorem Out.sw {a b a' b' : Nat} {G H : Nat → V} (h : Out lt a b a' b' G) (ha : a ≤ a') (hb : b' ≤ b) (hs : Sw a' b' G H) : Out lt a b a' b' H := by
 intro p q h1 h2 h3 h4
 obtain ⟨p', ep, hp⟩ := hs.src' p
 obtain ⟨q', eq, hq⟩ := hs.src' q
 rw [ep, eq]
 exact h p' q' (by omega) (by omega) (by omega) (by omega)
theorem Out.fin {a b a' b' : Nat} {G H : Nat → V} (h : Out lt a b a' b' G) (ha : a ≤ a') (hb : b' ≤ b) (hs : Sw a' b' G H) (hso : Srt lt a' b' H) : Srt lt a b H := by
 intro p q h1 h2 h3
 by_cases hpq : p < a' ∨ b' ≤ q
 ·exact h.sw ha hb hs p q h1 h2 h3 hpq
 ·exact hso p q (by omega) h2 (by omega)
theorem Out.left {a b a' b' : Nat} {F G : Nat → V} (h : Out lt a b a' b' G) (ha : a ≤ a') (hab : a' < b') (hb : b' ≤ b) (hs : Sw a b F G) (hl : a = 0 ∨ ∀ k, a ≤ k → k < b → lt (F k) (F (a - 1)) = false) : a' = 0 ∨ ∀ k, a' ≤ k → k < b' → lt (G k) (G (a' - 1)) = false := by
 by_cases he : a' = a
 ·rcases hl with h0 | hl
  ·exact .inl (by omega)
  ·by_cases ha0 : a = 0
   ·exact .inl (by omega)
   ·refine .inr fun k h1 h2 => ?_
    rw [he, hs.out (k := a - 1) (by omega)]
    exact hs.all (p := fun x => lt x (F (a - 1)) = false) hl (by omega) (by omega)
 ·exact .inr fun k h1 h2 => h (a' - 1) k (by omega) (by omega) (by omega) (.inl (by omega))
theorem Out.low (hcmp : CmpOK cv D lt) {a b a' b' mid : Nat} {G G' H : Nat → V} (hD : ∀ k, k < b → D (H k)) (h : Out lt a b a' b' G) (ha : a ≤ a') (hb : b' ≤ b) (hs : Sw a' b' G G') (hp : ParP lt a' b' mid G') (hs2 : Sw a' mid G' H) (hso : Srt lt a' mid H) : Out lt a b (mid + 1) b' H := by
 obtain ⟨p1, p2, plo, phi⟩ := hp
 have hO := h.sw ha hb (hs.trans (hs2.mono (Nat.le_refl _) (by omega)))
 have em : H mid = G' mid := hs2.out (by omega)
 have hlo : ∀ k, a' ≤ k → k < mid → lt (H k) (H mid) = true := fun k h1 h2 => by
  rw [em]; exact hs2.all (p := fun x => lt x (G' mid) = true) plo h1 h2
 intro p q h1 h2 h3 h4
 by_cases hpq : p < a' ∨ b' ≤ q
 ·exact hO p q h1 h2 h3 hpq
 ·have has : p < mid → lt (H mid) (H p) = false := fun hpm => hcmp.asym _ _ (hD p (by omega)) (hD mid (by omega)) (hlo p (by omega) hpm)
  by_cases hqm : q < mid
  ·exact hso p q (by omega) h2 hqm
  ·by_cases hqe : q = mid
   ·rw [hqe]; exact has (by omega)
   ·have hq : lt (H q) (H mid) = false := by rw [em, hs2.out (by omega)]; exact phi q (by omega) (by omega)
    by_cases hpm : p = mid
    ·rw [hpm]; exact hq
    ·exact hcmp.ntr _ _ _ (hD q h3) (hD mid (by omega)) (hD p (by omega)) hq (has (by omega))
theorem Out.high (hcmp : CmpOK cv D lt) {a b a' b' mid : Nat} {G G' H : Nat → V} (hD : ∀ k, k < b → D (H k)) (h : Out lt a b a' b' G) (ha : a ≤ a') (hb : b' ≤ b) (hs : Sw a' b' G G') (hp : ParP lt a' b' mid G') (hs2 : Sw (mid + 1) b' G' H) (hso : Srt lt (mid + 1) b' H) : Out lt a b a' mid H := by
 obtain ⟨p1, p2, plo, phi⟩ := hp
 have hO := h.sw ha hb (hs.trans (hs2.mono (by omega) (Nat.le_refl _)))
 have em : H mid = G' mid := hs2.out (by omega)
 have hhi : ∀ k, mid < k → k < b' → lt (H k) (H mid) = false := fun k h1 h2 => by
  rw [em]; exact hs2.all (p := fun x => lt x (G' mid) = false) (fun k h1 h2 => phi k (by omega) h2) h1 h2
 intro p q h1 h2 h3 h4
 by_cases hpq : p < a' ∨ b' ≤ q
 ·exact hO p q h1 h2 h3 hpq
 ·have has : p < mid → lt (H mid) (H p) = false := fun hpm => by
   rw [em, hs2.out (k := p) (by omega)]
   have := plo p (by omega) hpm
   have e : H p = G' p := hs2.out (by omega)
   refine hcmp.asym _ _ ?_ ?_ this
   ·rw [← e]; exact hD p (by omega)
   ·rw [← em]; exact hD mid (by omega)
  by_cases hqe : q = mid
  ·rw [hqe]; exact has (by omega)
  ·have hq := hhi q (by omega) (by omega)
   by_cases hpm : p < mid
   ·exact hcmp.ntr _ _ _ (hD q h3) (hD mid (by omega)) (hD p (by omega)) hq (has hpm)
   ·by_cases hpe : p = mid
    ·rw [hpe]; exact hq
    ·exact hso p q (by omega) h2 (by omega)
theorem Out.eq (hcmp : CmpOK cv D lt) {a b a' b' mid : Nat} {G H : Nat → V} (hD : ∀ k, k < b → D (H k)) (h : Out lt a b a' b' G) (ha : a ≤ a') (hb : b' ≤ b) (hs : Sw a' b' G H) (hm : a' < mid) (hmb : mid ≤ b') (hlo : ∀ k, a' < k → k < mid → lt (H a') (H k) = false) (hge : ∀ k, a' ≤ k → k < b' → lt (H k) (H a') = false) : Out lt a b mid b' H := by
 have hO := h.sw ha hb hs
 intro p q h1 h2 h3 h4
 by_cases hpq : p < a' ∨ b' ≤ q
 ·exact hO p q h1 h2 h3 hpq
 ·have hq := hge q (by omega) (by omega)
  by_cases hp : p = a'
  ·rw [hp]; exact hq
  ·exact hcmp.ntr _ _ _ (hD q h3) (hD a' (by omega)) (hD p (by omega)) hq (hlo p (by omega) (by omega))
theorem DA.trans {σ0 σ1 σ2 : List O} {id ver n : Nat} {G H : Nat → V} (h : DA σ0 id ver n G σ1) (h2 : DA σ1 id ver n H σ2) : DA σ0 id ver n H σ2 := ⟨h2.at_, by rw [h2.is_, h.is_, List.set_set]⟩
structure SortFns (pdqF insF heapF brkF pivF revF pisF peqF parF siftF madjF medF ord2F : FuncId) : Prop where
 pdq : ∃ fn ex, Fn_ Tryz.prog pdqF fn ex (gpdq insF heapF brkF pivF revF pisF peqF parF pdqF) grpdq
 ins : ∃ fn ex, Fn_ Tryz.prog insF fn ex gins grins
 heap : ∃ fn ex, Fn_ Tryz.prog heapF fn ex (gheap siftF) grheap
 brk : ∃ fn ex, Fn_ Tryz.prog brkF fn ex gbrk grbrk
 piv : ∃ fn ex, Fn_ Tryz.prog pivF fn ex (gpiv madjF medF) grpiv
 rev : ∃ fn ex, Fn_ Tryz.prog revF fn ex grev grrev
 pis : ∃ fn ex, Fn_ Tryz.prog pisF fn ex gpis grpis
 peq : ∃ fn ex, Fn_ Tryz.prog peqF fn ex gpeq grpeq
 par : ∃ fn ex, Fn_ Tryz.prog parF fn ex gpar grpar
 sift : ∃ fn ex, Fn_ Tryz.prog siftF fn ex gsift grsift
 madj : ∃ fn ex, Fn_ Tryz.prog madjF fn ex (gmadj medF) grmadj
 med : ∃ fn ex, Fn_ Tryz.prog medF fn ex (gmed ord2F) grmed
 ord2 : ∃ fn ex, Fn_ Tryz.prog ord2F fn ex gord2 grord2
theorem sortA : SortFns 118 122 123 124 125 126 127 128 129 140 143 144 148 :=
 ⟨⟨_, _, gf118⟩, ⟨_, _, gf122⟩, ⟨_, _, gf123⟩, ⟨_, _, gf124⟩, ⟨_, _, gf125⟩, ⟨_, _, gf126⟩, ⟨_, _, gf127⟩, ⟨_, _, gf128⟩, ⟨_, _, gf129⟩, ⟨_, _, gf140⟩, ⟨_, _, gf143⟩, ⟨_, _, gf144⟩, ⟨_, _, gf148⟩⟩
theorem sortB_ : SortFns 121 132 133 134 135 136 137 138 139 145 146 147 149 :=
 ⟨⟨_, _, gf121⟩, ⟨_, _, gf132⟩, ⟨_, _, gf133⟩, ⟨_, _, gf134⟩, ⟨_, _, gf135⟩, ⟨_, _, gf136⟩, ⟨_, _, gf137⟩, ⟨_, _, gf138⟩, ⟨_, _, gf139⟩, ⟨_, _, gf145⟩, ⟨_, _, gf146⟩, ⟨_, _, gf147⟩, ⟨_, _, gf149⟩⟩
theorem pdq_ok {pdqF insF heapF brkF pivF revF pisF peqF parF siftF madjF medF ord2F : FuncId} (hS : SortFns pdqF insF heapF brkF pivF revF pisF peqF parF siftF madjF medF ord2F) (hcmp : CmpOK cv D lt) {id ver n : Nat} (hn : n ≤ 60000) :
  ∀ (N : Nat) {σ : List O} {a b lim : Nat} {F : Nat → V}, b - a < N → (∀ k, k < n → D (F k)) → a ≤ b → b ≤ n → lim ≤ 100 → σ[id]? = some (.row ver (rowV n F)) → (a = 0 ∨ ∀ k, a ≤ k → k < b → lt (F k) (F (a - 1)) = false) →
  FSpecQ Tryz.prog pdqF [slV id ver n, .i .i64 a, .i .i64 b, .i .i64 lim, cv] σ (SwQ σ id ver n a b F (Srt lt a b) (.tup [])) := by
 intro N
 induction N with
 | zero => intro σ a b lim F h; omega
 | succ N ih =>
  intro σ a b lim F hNb hD hab hbn hlim hσ hleft
  obtain ⟨_, _, hpdq⟩ := hS.pdq
  obtain ⟨_, _, hins⟩ := hS.ins
  obtain ⟨_, _, hheap⟩ := hS.heap
  obtain ⟨_, _, hbrk⟩ := hS.brk
  obtain ⟨_, _, hpiv⟩ := hS.piv
  obtain ⟨_, _, hrev⟩ := hS.rev
  obtain ⟨_, _, hpis⟩ := hS.pis
  obtain ⟨_, _, hpeq⟩ := hS.peq
  obtain ⟨_, _, hpar⟩ := hS.par
  obtain ⟨_, _, hsift⟩ := hS.sift
  obtain ⟨_, _, hmadj⟩ := hS.madj
  obtain ⟨_, _, hmed⟩ := hS.med
  obtain ⟨_, _, hord2⟩ := hS.ord2
  have hn' : n ≤ 1000000 := by omega
  refine hpdq.specQ mixed noIt_ok ?_
  rw [gpdq]
  refine ab_seq_k fun K1 h1 => ?_
  simp
  refine h1 _ _ _ ?_
  clear h1 K1
  refine ab_seq_k fun K2 h2 => ?_
  simp
  refine h2 _ _ _ ?_
  clear h2 K2
  refine ab_block_k fun K3 h3 => ?_
  refine ab_loop_k (fun m env σ' => ∃ (a' b' l' : Nat) (wb wp : Bool) (G : Nat → V), b' - a' = m ∧ a ≤ a' ∧ a' ≤ b' ∧ b' ≤ b ∧ l' ≤ 100 ∧ env = [(0, slV id ver n), (1, .i .i64 a'), (2, .i .i64 b'), (3, .i .i64 l'), (4, cv), (10, .b wb), (11, .b wp)] ∧ Sw a b F G ∧ Out lt a b a' b' G ∧ DA σ id ver n G σ') _ ⟨a, b, lim, true, true, F, rfl, Nat.le_refl _, hab, Nat.le_refl _, hlim, by simp, .refl F, fun p q _ _ _ h => by omega, DA.mk0 hσ⟩ ?_
  rintro m env σ' ⟨a', b', l', wb, wp, G, hm, haa, hab', hbb, hl', rfl, hsw, hout, hda⟩ K4 h4
  have hGD : ∀ {G}, Sw a b F G → ∀ k, k < n → D (G k) := fun h k hk => h.alln hbn hD hk
  rw [gpdq_0]
  refine ab_block_k fun K5 h5 => ?_
  obtain ⟨l, hl⟩ : ∃ l, l = b' - a' := ⟨_, rfl⟩
  have e1 : IntKind.i64.wrap ((b' : Int) - a') = l := by rw [wrap64 (by omega) (by omega)]; omega
  refine ab_seq_k fun K6 h6 => ?_
  simp [e1]
  refine h6 _ _ _ ?_
  clear h6 K6
  refine ab_seq_k fun K7 h7 => ?_
  refine ab_seq_k fun K8 h8 => ?_
  simp
  refine h8 _ _ _ ?_
  clear h8 K8
  by_cases h12 : l ≤ 12
  ·refine ab_cond_of rfl (fun _ => ?_) (fun h => by simp at h; omega)
   refine ab_seq_k fun K9 h9 => ?_
   simp
   refine callR_of (ins_ok hins hcmp (hGD hsw) hab' (by omega) hn' hda.at_) ?_
   rintro v σ2 ⟨rfl, H, s1, s2, s3⟩
   simp
   refine h9 _ _ _ ?_
   simp
   refine fin_Q ?_
   simp [grpdq]
   exact ⟨rfl, H, hsw.trans (s1.mono haa hbb), hout.fin haa hbb s1 s2, hda.trans s3⟩
  refine ab_cond_of rfl (fun h => by simp at h; omega) (fun _ => ?_)
  simp
  refine h7 _ _ _ ?_
  clear h7 K7
  refine ab_seq_k fun K7 h7 => ?_
  refine ab_seq_k fun K8 h8 => ?_
  simp
  refine h8 _ _ _ ?_
  clear h8 K8
  by_cases hl0 : l' = 0
  ·refine ab_cond_of rfl (fun _ => ?_) (fun h => by simp [hl0] at h)
   refine ab_seq_k fun K9 h9 => ?_
   simp
   refine callR_of (heap_ok hheap hsift hcmp (hGD hsw) (by omega) (by omega) hn' hda.at_) ?_
   rintro v σ2 ⟨rfl, H, s1, s2, s3⟩
   simp
   refine h9 _ _ _ ?_
   simp
   refine fin_Q ?_
   simp [grpdq]
   exact ⟨rfl, H, hsw.trans (s1.mono haa hbb), hout.fin haa hbb s1 s2, hda.trans s3⟩
  refine ab_cond_of rfl (fun h => by simp at h; omega) (fun _ => ?_)
  simp
  refine h7 _ _ _ ?_
  clear h7 K7
  refine ab_seq_k fun K10 h10 => ?_
  have hK10 : ∀ env (G : Nat → V) σ' (l2 : Nat), get env 0 = slV id ver n → get env 1 = .i .i64 a' → get env 2 = .i .i64 b' → get env 3 = .i .i64 l2 → get env 4 = cv → get env 10 = .b wb → get env 11 = .b wp → get env 12 = .i .i64 l → l2 ≤ 100 → Sw a b F G → Out lt a b a' b' G → DA σ id ver n G σ' → K10 (some 0) env σ' := by
   intro env G σ' l2 w0 w1 w2 w3 w4 w10 w11 w12 hl2 hsw hout hda
   refine h10 _ _ _ ?_
   clear h10
   have hend : ∀ env (a2 b2 : Nat) (wb wp : Bool) (G : Nat → V) σ', get env 0 = slV id ver n → get env 1 = .i .i64 a2 → get env 2 = .i .i64 b2 → get env 3 = .i .i64 l2 → get env 4 = cv → get env 10 = .b wb → get env 11 = .b wp → a' ≤ a2 → a2 ≤ b2 → b2 ≤ b' → b2 - a2 < b' - a' → Sw a b F G → Out lt a b a2 b2 G → DA σ id ver n G σ' → K5 (some 0) env σ' := by
    intro env a2 b2 wb wp G σ' w0 w1 w2 w3 w4 w10 w11 q1 q2 q3 q4 s1 s2 s3
    refine h5 _ _ _ (h4 _ _ _ (again _ ?_ ⟨a2, b2, l2, wb, wp, G, rfl, by omega, q2, by omega, hl2, by simp [w0, w1, w2, w3, w4, w10, w11], s1, s2, s3⟩))
    omega
   clear h4 h5
   refine ab_seq_k fun K13 h13 => ?_
   simp [w0, w1, w2, w3, w4, w10, w11, w12]
   refine callR_of (piv_ok hpiv hmadj hmed hord2 hcmp (hGD hsw) (by omega) (by omega) hn' hda.at_) ?_
   rintro v σ2 ⟨pv, hint, rfl, pv1, pv2, rfl⟩
   simp [w0, w1, w2, w3, w4, w10, w11, w12]
   refine h13 _ _ _ ?_
   clear h13 K13
   refine ab_seq_k fun K14 h14 => ?_
   have hK14 : ∀ env (G : Nat → V) σ' (pv : Nat) (hint : Int), get env 0 = slV id ver n → get env 1 = .i .i64 a' → get env 2 = .i .i64 b' → get env 3 = .i .i64 l2 → get env 4 = cv → get env 10 = .b wb → get env 11 = .b wp → get env 12 = .i .i64 l → get env 13 = .i .i64 pv → get env 14 = .i .i64 hint → a' ≤ pv → pv < b' → Sw a b F G → Out lt a b a' b' G → DA σ id ver n G σ' → K14 (some 0) env σ' := by
    intro env G σ' pv hint w0 w1 w2 w3 w4 w10 w11 w12 w13 w14 pv1 pv2 hsw hout hda
    refine h14 _ _ _ ?_
    clear h14
    refine ab_seq_k fun K15 h15 => ?_
    have hK15 : ∀ env (G : Nat → V) σ', get env 0 = slV id ver n → get env 1 = .i .i64 a' → get env 2 = .i .i64 b' → get env 3 = .i .i64 l2 → get env 4 = cv → get env 10 = .b wb → get env 11 = .b wp → get env 12 = .i .i64 l → get env 13 = .i .i64 pv → Sw a b F G → Out lt a b a' b' G → DA σ id ver n G σ' → K15 (some 0) env σ' := by
     intro env G σ' w0 w1 w2 w3 w4 w10 w11 w12 w13 hsw hout hda
     refine h15 _ _ _ ?_
     clear h15
     have hlf := hout.left haa (by omega) hbb hsw hleft
     have hat := hda.at_
     obtain ⟨hat1, hat'⟩ := List.getElem?_eq_some_iff.1 hat
     have hpn : pv < n := by omega
     have han : a' < n := by omega
     refine ab_seq_k fun K16 h16 => ?_
     have hK16 : ∀ env, get env 0 = slV id ver n → get env 1 = .i .i64 a' → get env 2 = .i .i64 b' → get env 3 = .i .i64 l2 → get env 4 = cv → get env 10 = .b wb → get env 11 = .b wp → get env 12 = .i .i64 l → get env 13 = .i .i64 pv → K16 (some 0) env σ' := by
      intro env w0 w1 w2 w3 w4 w10 w11 w12 w13
      refine h16 _ _ _ ?_
      clear h16
      refine ab_seq_k fun K17 h17 => ?_
      simp [w0, w1, w2, w3, w4, w10, w11, w12, w13]
      refine callR_of (par_ok hpar hcmp (hGD hsw) pv1 pv2 (by omega) hn' hda.at_) ?_
      rintro v σ2 ⟨mid, al, H, rfl, s1, s2, s3⟩
      simp [w0, w1, w2, w3, w4, w10, w11, w12, w13]
      refine h17 _ _ _ ?_
      clear h17 K17
      have hsw2 := hsw.trans (s1.mono haa hbb)
      have hda2 := hda.trans s3
      have sP := s2
      obtain ⟨m1, m2, mlo, mhi⟩ := s2
      obtain ⟨L, hL⟩ : ∃ L, L = mid - a' := ⟨_, rfl⟩
      obtain ⟨Rr, hR⟩ : ∃ R, R = b' - mid := ⟨_, rfl⟩
      obtain ⟨q8, hq8⟩ : ∃ q, q = l / 8 := ⟨_, rfl⟩
      have f1 : IntKind.i64.wrap ((mid : Int) - a') = L := by rw [wrap64 (by omega) (by omega)]; omega
      have f2 : IntKind.i64.wrap ((b' : Int) - mid) = Rr := by rw [wrap64 (by omega) (by omega)]; omega
      have f3 : IntKind.i64.wrap ((l : Int).tdiv 8) = q8 := by
       have : (l : Int).tdiv 8 = ((l / 8 : Nat) : Int) := rfl
       rw [this, wrap64 (by omega) (by omega), hq8]
      have f3' : IntKind.i64.wrap ((l : Int) / 8) = q8 := by rw [wrap64 (by omega) (by omega)]; omega
      have f4 := wrap64 (x := (mid : Int) + 1) (by omega) (by omega)
      refine ab_seq_k fun K18 h18 => ?_
      simp
      refine h18 _ _ _ ?_
      clear h18 K18
      refine ab_seq_k fun K19 h19 => ?_
      simp [f1, f2]
      refine h19 _ _ _ ?_
      clear h19 K19
      refine ab_seq_k fun K20 h20 => ?_
      simp [f3, f3']
      refine h20 _ _ _ ?_
      clear h20 K20
      refine ab_seq_k fun K21 h21 => ?_
      simp
      refine h21 _ _ _ ?_
      clear h21 K21
      by_cases hLR : L < Rr
      ·refine ab_cond_of rfl (fun _ => ?_) (fun h => by simp at h; omega)
       refine ab_seq_k fun K22 h22 => ?_
       simp
       refine h22 _ _ _ ?_
       clear h22 K22
       refine ab_seq_k fun K23 h23 => ?_
       simp
       have hl2' : a' = 0 ∨ ∀ k, a' ≤ k → k < mid → lt (H k) (H (a' - 1)) = false := by
        rcases (hout.sw haa hbb s1).left haa (by omega) hbb hsw2 hleft with h | h
        ·exact .inl h
        ·exact .inr fun k k1 k2 => h k k1 (by omega)
       refine callR_of (ih (lim := l2) (by omega) (hGD hsw2) m1 (by omega) hl2 hda2.at_ hl2') ?_
       rintro v σ3 ⟨rfl, H2, t1, t2, t3⟩
       simp
       refine h23 _ _ _ ?_
       simp [f4]
       have hsw3 := hsw2.trans (t1.mono haa (by omega))
       refine hend _ (mid + 1) b' (decide (q8 ≤ L)) al H2 _ rfl rfl rfl rfl rfl (by simp) rfl (by omega) (by omega) (by omega) (by omega) hsw3 (hout.low hcmp (fun k hk => hGD hsw3 k (by omega)) haa hbb s1 sP t1 t2) (hda2.trans t3)
      ·refine ab_cond_of rfl (fun h => by simp at h; omega) (fun _ => ?_)
       refine ab_seq_k fun K22 h22 => ?_
       simp
       refine h22 _ _ _ ?_
       clear h22 K22
       refine ab_seq_k fun K23 h23 => ?_
       simp [f4]
       have hl2' : mid + 1 = 0 ∨ ∀ k, mid + 1 ≤ k → k < b' → lt (H k) (H (mid + 1 - 1)) = false := .inr fun k k1 k2 => mhi k (by omega) k2
       refine callR_of (ih (lim := l2) (a := mid + 1) (by omega) (hGD hsw2) (by omega) (by omega) hl2 hda2.at_ hl2') ?_
       rintro v σ3 ⟨rfl, H2, t1, t2, t3⟩
       simp
       refine h23 _ _ _ ?_
       simp
       have hsw3 := hsw2.trans (t1.mono (by omega) hbb)
       refine hend _ a' mid (decide (q8 ≤ Rr)) al H2 _ rfl rfl rfl rfl rfl (by simp) rfl (by omega) (by omega) (by omega) (by omega) hsw3 (hout.high hcmp (fun k hk => hGD hsw3 k (by omega)) haa hbb s1 sP t1 t2) (hda2.trans t3)
     clear h16
     refine ab_seq_k fun K17 h17 => ?_
     by_cases ha0 : 0 < a'
     ·obtain ⟨x, hx⟩ : ∃ x, x + 1 = a' := ⟨a' - 1, by omega⟩
      have hxn : x < n := by omega
      have f1 : IntKind.i64.wrap ((a' : Int) - 1) = x := by rw [wrap64 (by omega) (by omega)]; omega
      simp [abDs_consU, drU, recheck_cons, recheck_nil, rcK, IS.dst, w0, w1, w2, w3, w4, w10, w11, w12, w13, ha0, f1, hat, hat', hxn, hpn, rowV_get]
      refine callv_cmp hcmp (hGD hsw _ hxn) (hGD hsw _ hpn) fun c hcc => ?_
      simp [abDs_consU, drU, recheck_cons, recheck_nil, rcK, IS.dst, hcc, w0, w1, w2, w3, w4, w10, w11, w12, w13]
      refine h17 _ _ _ ?_
      clear h17
      cases hlx : lt (G x) (G pv) with
      | true =>
       refine ab_cond_of rfl (fun h => by cases h) (fun _ => ?_)
       simp
       exact hK16 _ rfl rfl rfl rfl rfl rfl rfl rfl rfl
      | false =>
       refine ab_cond_of rfl (fun _ => ?_) (fun h => by cases h)
       refine ab_seq_k fun K18 h18 => ?_
       simp
       refine callR_of (peq_ok hpeq hcmp (hGD hsw) pv1 pv2 (by omega) hn' hda.at_) ?_
       rintro v σ2 ⟨mid, H, rfl, s1, s2, s3, s4, s5, s6, s7⟩
       simp
       refine h18 _ _ _ ?_
       clear h18 K18
       refine ab_seq_k fun K19 h19 => ?_
       simp
       refine h19 _ _ _ ?_
       clear h19 K19
       simp
       have hsw2 := hsw.trans (s1.mono haa hbb)
       have hge : ∀ k, a' ≤ k → k < b' → lt (G k) (G pv) = false := by
        rcases hlf with h | h
        ·omega
        ·intro k k1 k2
         have := h k k1 k2
         rw [show a' - 1 = x by omega] at this
         exact hcmp.ntr _ _ _ (hGD hsw k (by omega)) (hGD hsw x hxn) (hGD hsw pv hpn) this hlx
       refine hend _ mid b' wb wp H _ rfl rfl rfl rfl rfl rfl rfl (by omega) (by omega) (by omega) (by omega) hsw2 (hout.eq hcmp (fun k hk => hGD hsw2 k (by omega)) haa hbb s1 s3 s4 s5 (fun k k1 k2 => by rw [s2]; exact s1.all (p := fun x => lt x (G pv) = false) hge k1 k2)) (hda.trans s7)
     ·simp [abDs_consU, drU, recheck_cons, recheck_nil, rcK, IS.dst, w0, w1, w2, w3, w4, w10, w11, w12, w13, ha0]
      refine h17 _ _ _ ?_
      clear h17
      refine ab_cond_of rfl (fun h => by cases h) (fun _ => ?_)
      simp
      exact hK16 _ rfl rfl rfl rfl rfl rfl rfl rfl rfl
    clear h15
    refine ab_seq_k fun K16 h16 => ?_
    have hK16 : ∀ env c, get env 0 = slV id ver n → get env 1 = .i .i64 a' → get env 2 = .i .i64 b' → get env 3 = .i .i64 l2 → get env 4 = cv → get env 10 = .b wb → get env 11 = .b wp → get env 12 = .i .i64 l → get env 13 = .i .i64 pv → get env 75 = .b c → K16 (some 0) env σ' := by
     intro env c w0 w1 w2 w3 w4 w10 w11 w12 w13 w75
     refine h16 _ _ _ ?_
     clear h16
     cases c with
     | false =>
      refine ab_cond_of w75 (fun h => by cases h) (fun _ => ?_)
      simp
      exact hK15 _ G _ w0 w1 w2 w3 w4 w10 w11 w12 w13 hsw hout hda
     | true =>
      refine ab_cond_of w75 (fun _ => ?_) (fun h => by cases h)
      refine ab_seq_k fun K17 h17 => ?_
      simp [w0, w1, w2, w3, w4, w10, w11, w12, w13]
      refine callR_of (pis_ok hpis hcmp (hGD hsw) (by omega) (by omega) hn' hda.at_ (hout.left haa (by omega) hbb hsw hleft)) ?_
      rintro v σ2 ⟨r, H, rfl, s1, s2, s3⟩
      simp [w0, w1, w2, w3, w4, w10, w11, w12, w13]
      refine h17 _ _ _ ?_
      cases r with
      | true =>
       refine ab_cond_of rfl (fun _ => ?_) (fun h => by cases h)
       simp
       refine fin_Q ?_
       simp [grpdq]
       exact ⟨rfl, H, hsw.trans (s1.mono haa hbb), hout.fin haa hbb s1 (s2 rfl), hda.trans s3⟩
      | false =>
       refine ab_cond_of rfl (fun h => by cases h) (fun _ => ?_)
       simp
       exact hK15 _ H _ rfl rfl rfl rfl rfl rfl rfl rfl rfl (hsw.trans (s1.mono haa hbb)) (hout.sw haa hbb s1) (hda.trans s3)
    clear h16 hK15
    cases wb with
    | false =>
     simp [w0, w1, w2, w3, w4, w10, w11, w12, w13, w14]
     exact hK16 _ false rfl rfl rfl rfl rfl rfl rfl rfl rfl rfl
    | true =>
     cases wp with
     | false =>
      simp [w0, w1, w2, w3, w4, w10, w11, w12, w13, w14]
      exact hK16 _ false rfl rfl rfl rfl rfl rfl rfl rfl rfl rfl
     | true =>
      simp [w0, w1, w2, w3, w4, w10, w11, w12, w13, w14]
      exact hK16 _ _ rfl rfl rfl rfl rfl rfl rfl rfl rfl rfl
   clear h14
   refine ab_seq_k fun K15 h15 => ?_
   simp
   refine h15 _ _ _ ?_
   clear h15 K15
   by_cases hh2 : hint = 2
   ·refine ab_cond_of rfl (fun _ => ?_) (fun h => by simp [hh2] at h)
    refine ab_seq_k fun K16 h16 => ?_
    simp
    refine callR_of (rev_ok hrev hcmp (hGD hsw) (by omega) (by omega) hn' hda.at_) ?_
    rintro v σ3 ⟨rfl, H, s1, -, s3⟩
    simp
    refine h16 _ _ _ ?_
    clear h16 K16
    obtain ⟨d, hd⟩ : ∃ d, d = pv - a' := ⟨_, rfl⟩
    obtain ⟨b1, hb1⟩ : ∃ b1, b1 + 1 = b' := ⟨b' - 1, by omega⟩
    have f1 : IntKind.i64.wrap ((b' : Int) - 1) = b1 := by rw [wrap64 (by omega) (by omega)]; omega
    have f2 : IntKind.i64.wrap ((pv : Int) - a') = d := by rw [wrap64 (by omega) (by omega)]; omega
    have f3 : IntKind.i64.wrap ((b1 : Int) - d) = ((b1 - d : Nat) : Int) := by rw [wrap64 (by omega) (by omega)]; omega
    refine ab_seq_k fun K17 h17 => ?_
    simp [f1, f2, f3]
    refine h17 _ _ _ ?_
    clear h17 K17
    simp
    exact hK14 _ H _ (b1 - d) 1 rfl rfl rfl rfl rfl rfl rfl rfl rfl rfl (by omega) (by omega) (hsw.trans (s1.mono haa hbb)) (hout.sw haa hbb s1) (hda.trans s3)
   ·refine ab_cond_of rfl (fun h => by simp [hh2] at h) (fun _ => ?_)
    simp
    exact hK14 _ G _ pv hint rfl rfl rfl rfl rfl rfl rfl rfl rfl rfl pv1 pv2 hsw hout hda
  clear h10
  refine ab_seq_k fun K11 h11 => ?_
  simp
  refine h11 _ _ _ ?_
  cases wb with
  | true =>
   refine ab_cond_of rfl (fun h => by cases h) (fun _ => ?_)
   simp
   exact hK10 _ G _ l' rfl rfl rfl rfl rfl rfl rfl rfl hl' hsw hout hda
  | false =>
   refine ab_cond_of rfl (fun _ => ?_) (fun h => by cases h)
   refine ab_seq_k fun K12 h12 => ?_
   simp
   refine callR_of (brk_ok hbrk hcmp (hGD hsw) (by omega) (by omega) hn hda.at_) ?_
   rintro v σ2 ⟨rfl, H, s1, s2, s3⟩
   simp
   refine h12 _ _ _ ?_
   have e2 : IntKind.i64.wrap ((l' : Int) - 1) = ((l' - 1 : Nat) : Int) := by rw [wrap64 (by omega) (by omega)]; omega
   simp [e2]
   exact hK10 _ H _ (l' - 1) rfl rfl rfl rfl rfl rfl rfl rfl (by omega) (hsw.trans (s1.mono haa hbb)) (hout.sw haa hbb s1) (hda.trans s3)
end
end Go.Ab
end
section
namespace Go.Ab
open Go Go.Proofs
theorem sidx_nat {s : ByteArray} {n : Nat} {k : IntKind} {b : UInt8} {K : V → Prop} (h : s[n]? = some b) (hK : K (.i .u8 b.toNat)) : sidxK (.str s) (.i k (n : Int)) K := by
 refine ⟨by omega, ?_⟩
 rw [Int.toNat_natCast, h]
 exact hK
def pc (s : Nat) : Nat := (bl s 16).length
theorem bl_add {s : Nat} : ∀ {k : Nat}, (bl s (8 + k)).length = (bl s 8).length + (bl (s >>> 8) k).length
 | 0 => by simp [bl]
 | k + 1 => by
  have ih := bl_add (s := s) (k := k)
  have e1 : bl s (8 + k + 1) = if s.testBit (8 + k) then bl s (8 + k) ++ [((8 + k : Nat) : Int)] else bl s (8 + k) := rfl
  have e2 : bl (s >>> 8) (k + 1) = if (s >>> 8).testBit k then bl (s >>> 8) k ++ [(k : Int)] else bl (s >>> 8) k := rfl
  rw [show 8 + (k + 1) = 8 + k + 1 by omega, e1, e2, Nat.testBit_shiftRight]
  cases s.testBit (8 + k) with
  | true =>
   simp
   omega
  | false => simpa using ih
theorem bl_congr {s t : Nat} : ∀ {k : Nat}, (∀ j, j < k → s.testBit j = t.testBit j) → bl s k = bl t k
 | 0, _ => rfl
 | k + 1, h => by
  rw [bl, bl, h k (by omega), bl_congr fun j hj => h j (by omega)]
theorem pc_split {s : Nat} : pc s = (bl (s >>> 8) 8).length + (bl (s % 256) 8).length := by
 unfold pc
 rw [show 16 = 8 + 8 from rfl, bl_add, bl_congr (s := s % 256) (t := s)]
 ·omega
 ·intro j hj
  rw [show 256 = 2 ^ 8 from rfl, Nat.testBit_mod_two_pow]
  simp [hj]
def tabB : ByteArray := ⟨#[0, 1, 1, 2, 1, 2, 2, 3, 1, 2, 2, 3, 2, 3, 3, 4, 1, 2, 2, 3, 2, 3, 3, 4, 2, 3, 3, 4, 3, 4, 4, 5, 1, 2, 2, 3, 2, 3, 3, 4, 2, 3, 3, 4, 3, 4, 4, 5, 2, 3, 3, 4, 3, 4, 4, 5, 3, 4, 4, 5, 4, 5, 5, 6, 1, 2, 2, 3, 2, 3, 3, 4, 2, 3, 3, 4, 3, 4, 4, 5, 2, 3, 3, 4, 3, 4, 4, 5, 3, 4, 4, 5, 4, 5, 5, 6, 2, 3, 3, 4, 3, 4, 4, 5, 3, 4, 4, 5, 4, 5, 5, 6, 3, 4, 4, 5, 4, 5, 5, 6, 4, 5, 5, 6, 5, 6, 6, 7, 1, 2, 2, 3, 2, 3, 3, 4, 2, 3, 3, 4, 3, 4, 4, 5, 2, 3, 3, 4, 3, 4, 4, 5, 3, 4, 4, 5, 4, 5, 5, 6, 2, 3, 3, 4, 3, 4, 4, 5, 3, 4, 4, 5, 4, 5, 5, 6, 3, 4, 4, 5, 4, 5, 5, 6, 4, 5, 5, 6, 5, 6, 6, 7, 2, 3, 3, 4, 3, 4, 4, 5, 3, 4, 4, 5, 4, 5, 5, 6, 3, 4, 4, 5, 4, 5, 5, 6, 4, 5, 5, 6, 5, 6, 6, 7, 3, 4, 4, 5, 4, 5, 5, 6, 4, 5, 5, 6, 5, 6, 6, 7, 4, 5, 5, 6, 5, 6, 6, 7, 5, 6, 6, 7, 6, 7, 7, 8]⟩
theorem tab_all : ((List.range 256).all fun n => match tabB[n]? with | some b => b.toNat == (bl n 8).length | none => false) = true := by decide +kernel
theorem tab_at {n : Nat} (h : n < 256) : ∃ b, tabB[n]? = some b ∧ b.toNat = (bl n 8).length := by
 have := List.all_eq_true.1 tab_all n (List.mem_range.2 h)
 split at this
 ·rename_i b hb
  exact ⟨b, hb, by simpa using this⟩
 ·cases this
theorem many116 {s : Nat} {σ : List O} (hs : s < 65536) : FSpec Tryz.prog 116 [.i .u16 s] σ (.i .i64 (pc s)) σ := by
 refine FSpec.frame (σ := σ) ?_ rfl rfl
 refine fn116.spec0 mixed noIt_ok ?_
 rw [ic116]
 refine ab_seq_k fun K1 h1 => ?_
 simp
 refine h1 _ _ _ ?_
 clear h1 K1
 refine ab_seq_k fun K2 h2 => ?_
 have g1 : s >>> 8 < 256 := by rw [Nat.shiftRight_eq_div_pow]; omega
 have g2 : s % 256 < 256 := Nat.mod_lt _ (by omega)
 obtain ⟨b1, e1, f1⟩ := tab_at g1
 obtain ⟨b2, e2, f2⟩ := tab_at g2
 have hsh : (s : Int).fdiv 256 = ((s >>> 8 : Nat) : Int) := shr_nat (s := s) (m := 8) (by omega)
 have hm : s &&& 255 = s % 256 := Nat.and_two_pow_sub_one_eq_mod s 8
 have hand : bitop .and .u16 (s : Int) 255 = ((s % 256 : Nat) : Int) := by rw [← hm]; exact and_nat (a := s) (b := 255) hs (by omega)
 have hp := pc_split (s := s)
 have l1 := bl_len (s := s >>> 8) (k := 8)
 have l2 := bl_len (s := s % 256) (k := 8)
 have hw : IntKind.u8.wrap ((b1.toNat : Int) + b2.toNat) = (b1.toNat : Int) + b2.toNat := by
  have hu : ∀ x : Nat, x < 256 → IntKind.u8.wrap (x : Int) = x := by
   intro x hx
   simp [IntKind.wrap, IntKind.bits, IntKind.signed]
   omega
  have := hu (b1.toNat + b2.toNat) (by omega)
  simpa using this
 have hv : (b1.toNat : Int) + b2.toNat = (pc s : Nat) := by omega
 have hlp : pc s < 65536 := by omega
 simp
 rw [hsh, hand]
 refine sidx_nat e1 ?_
 refine sidx_nat e2 ?_
 simp
 rw [hw, hv]
 simp [wrap64 (x := (pc s : Int)) (by omega) (by omega)]
 refine h2 _ _ _ ?_
 simp
 exact fin_of 1 (by simp [rs116])
theorem many92 {s : Nat} {σ : List O} (hs : s < 65536) : FSpec Tryz.prog 92 [.i .u16 s] σ (.i .i64 (pc s)) σ := by
 refine FSpec.frame (σ := σ) ?_ rfl rfl
 refine fn92.spec0 mixed noIt_ok ?_
 rw [ic92]
 refine ab_seq_k fun K1 h1 => ?_
 simp
 refine h1 _ _ _ ?_
 clear h1 K1
 refine ab_seq_k fun K2 h2 => ?_
 simp
 refine callK_of (many116 hs) ?_
 simp
 refine h2 _ _ _ ?_
 clear h2 K2
 simp
 exact fin_of 1 (by simp [rs92])
end Go.Ab
end
