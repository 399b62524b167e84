import Derived.Test.YtgndegccjhdmmaaGreatKA
import Derived.Test.YtgndegccjhdmmaaGreatJC
/-! KB: made of KB KC -/
section
/- Slices as rows of any values; swaps; what a comparison is; plain. -/
set_option linter.unusedVariables false
set_option linter.unusedSimpArgs false
set_option maxHeartbeats 4000000
set_option maxRecDepth 100000
namespace Go.Ab
open Go Go.Proofs

def rowV (n : Nat) (F : Nat → V) : List V := (List.range n).map F
@[simp] theorem rowV_len {n F} : (rowV n F).length = n := by simp [rowV]
theorem rowV_get {n : Nat} {F : Nat → V} {k : Nat} (h : k < n) : (rowV n F)[k]? = some (F k) := by simp [rowV, h]
@[simp] theorem rowV_at {n : Nat} {F : Nat → V} {k : Nat} {h : k < (rowV n F).length} : (rowV n F)[k] = F k := by simp [rowV]
def updV (F : Nat → V) (k : Nat) (x : V) : Nat → V := fun i => if i = k then x else F i
theorem rowV_set {n : Nat} {F : Nat → V} {k : Nat} {x : V} : (rowV n F).set k x = rowV n (updV F k x) := by
  apply List.ext_getElem?
  intro i
  by_cases hi : i < n
  · rw [rowV_get hi]
    unfold updV
    by_cases hk : i = k
    · subst hk
      rw [if_pos rfl, List.getElem?_set_self (by simpa using hi)]
    · rw [if_neg hk, List.getElem?_set_ne (fun e => hk e.symm), rowV_get hi]
  · rw [List.getElem?_eq_none (by simpa using hi), List.getElem?_eq_none (by simpa using hi)]
def swp (F : Nat → V) (i j : Nat) : Nat → V := updV (updV F i (F j)) j (F i)
theorem swp_at {F : Nat → V} {i j k : Nat} : swp F i j k = if k = j then F i else if k = i then F j else F k := rfl
theorem rowV_swp {n : Nat} {F : Nat → V} {i j : Nat} : ((rowV n F).set i (F j)).set j (F i) = rowV n (swp F i j) := by
  rw [rowV_set, rowV_set]; rfl
theorem rowV_perm {n : Nat} {F : Nat → V} {i j : Nat} (hi : i < n) (hj : j < n) : (rowV n (swp F i j)).Perm (rowV n F) := by
  rw [← rowV_swp]
  have := @List.set_set_perm _ (rowV n F) i j (by simpa using hi) (by simpa using hj)
  simpa using this
theorem rowV_congr {n : Nat} {F G : Nat → V} (h : ∀ i, i < n → F i = G i) : rowV n F = rowV n G := by
  unfold rowV
  exact List.map_congr_left fun i hi => h i (List.mem_range.1 hi)

/-- By swaps within a range. -/
inductive Sw (a b : Nat) : (Nat → V) → (Nat → V) → Prop where
  | refl (F : Nat → V) : Sw a b F F
  | step {F G : Nat → V} (i j : Nat) (h : Sw a b F G) (h1 : a ≤ i) (h2 : i < b) (h3 : a ≤ j) (h4 : j < b) : Sw a b F (swp G i j)
theorem Sw.trans {a b : Nat} {F G H : Nat → V} (h1 : Sw a b F G) (h2 : Sw a b G H) : Sw a b F H := by
  induction h2 with
  | refl => exact h1
  | step i j _ a1 a2 a3 a4 ih => exact .step i j ih a1 a2 a3 a4
theorem Sw.mono {a b a' b' : Nat} {F G : Nat → V} (h : Sw a b F G) (ha : a' ≤ a) (hb : b ≤ b') : Sw a' b' F G := by
  induction h with
  | refl => exact .refl _
  | step i j _ a1 a2 a3 a4 ih => exact .step i j ih (by omega) (by omega) (by omega) (by omega)
theorem Sw.out {a b : Nat} {F G : Nat → V} (h : Sw a b F G) {k : Nat} (hk : k < a ∨ b ≤ k) : G k = F k := by
  induction h with
  | refl => rfl
  | step i j _ a1 a2 a3 a4 ih => rw [swp_at, if_neg (by omega), if_neg (by omega), ih]
theorem Sw.src {a b : Nat} {F G : Nat → V} (h : Sw a b F G) : ∀ {k : Nat}, a ≤ k → k < b → ∃ k', a ≤ k' ∧ k' < b ∧ G k = F k' := by
  induction h with
  | refl => intro k h1 h2; exact ⟨k, h1, h2, rfl⟩
  | step i j _ a1 a2 a3 a4 ih =>
    intro k h1 h2
    rw [swp_at]
    split
    · exact ih a1 a2
    · split
      · exact ih a3 a4
      · exact ih h1 h2
theorem Sw.all {a b : Nat} {F G : Nat → V} (h : Sw a b F G) {p : V → Prop} (hp : ∀ k, a ≤ k → k < b → p (F k)) {k : Nat} (h1 : a ≤ k) (h2 : k < b) : p (G k) := by
  obtain ⟨k', h3, h4, e⟩ := h.src h1 h2
  rw [e]; exact hp k' h3 h4
theorem Sw.alln {a b n : Nat} {F G : Nat → V} (h : Sw a b F G) (hb : b ≤ n) {p : V → Prop} (hp : ∀ k, k < n → p (F k)) {k : Nat} (hk : k < n) : p (G k) := by
  by_cases h1 : a ≤ k ∧ k < b
  · exact h.all (fun k _ h3 => hp k (by omega)) h1.1 h1.2
  · rw [h.out (by omega)]; exact hp k hk
theorem Sw.perm {a b n : Nat} {F G : Nat → V} (h : Sw a b F G) (hb : b ≤ n) : (rowV n G).Perm (rowV n F) := by
  induction h with
  | refl => exact List.Perm.refl _
  | step i j _ a1 a2 a3 a4 ih => exact (rowV_perm (by omega) (by omega)).trans ih
theorem Sw.one {a b : Nat} {F : Nat → V} {i j : Nat} (h1 : a ≤ i) (h2 : i < b) (h3 : a ≤ j) (h4 : j < b) : Sw a b F (swp F i j) := .step i j (.refl F) h1 h2 h3 h4

/-- A comparison of values. -/
structure CmpOK (cv : V) (D : V → Prop) (lt : V → V → Bool) : Prop where
  call : ∃ fc first cap, cv = .f (.func fc) first cap ∧ ∀ x y (σ : List O), D x → D y → ∃ c, FSpec Tryz.prog fc (first ++ [x, y] ++ cap) σ (.i .i64 c) σ ∧ decide (c < 0) = lt x y
  asym : ∀ x y, D x → D y → lt x y = true → lt y x = false
  ntr : ∀ x y z, D x → D y → D z → lt x y = false → lt y z = false → lt x z = false
  one : ∀ x, D x → cellsOf x = some [x]
  pure : ∀ x, D x → x.pure = true
theorem CmpOK.irr {cv D lt} (h : CmpOK cv D lt) {x : V} (hx : D x) : lt x x = false := by
  cases hl : lt x x with
  | false => rfl
  | true => have := h.asym x x hx hx hl; rw [hl] at this; cases this
theorem CmpOK.tr {cv D lt} (h : CmpOK cv D lt) {x y z : V} (hx : D x) (hy : D y) (hz : D z) (h1 : lt x y = true) (h2 : lt y z = true) : lt x z = true := by
  cases hl : lt x z with
  | true => rfl
  | false =>
    have := h.ntr x z y hx hz hy hl (h.asym y z hy hz h2)
    rw [h1] at this; cases this
theorem CmpOK.lt_le {cv D lt} (h : CmpOK cv D lt) {x y z : V} (hx : D x) (hy : D y) (hz : D z) (h1 : lt x y = true) (h2 : lt z y = false) : lt x z = true := by
  cases hl : lt x z with
  | true => rfl
  | false =>
    have := h.ntr x z y hx hz hy hl h2
    rw [h1] at this; cases this
theorem callv_cmp {cv D lt} (h : CmpOK cv D lt) {x y : V} (hx : D x) (hy : D y) {Y : Yield} {n0 : Nat} {md : Md} {env : Env} {σ : List O} {dst : Option Nat} {K : Kt} (hk : ∀ c, decide (c < 0) = lt x y → K md (put env dst (.i .i64 c)) σ) : callvK Tryz.prog Y n0 cv md env [x, y] σ dst K := by
  obtain ⟨fc, first, cap, rfl, hc⟩ := h.call
  obtain ⟨c, h1, h2⟩ := hc x y σ hx hy
  exact ⟨_, _, h1, hk c h2⟩

/-- The heap of a slice that is being sorted. -/
structure DA (σ0 : List O) (id ver n : Nat) (G : Nat → V) (σ : List O) : Prop where
  at_ : σ[id]? = some (.row ver (rowV n G))
  is_ : σ = σ0.set id (.row ver (rowV n G))
theorem DA.mk0 {σ : List O} {id ver n : Nat} {G : Nat → V} (h : σ[id]? = some (.row ver (rowV n G))) : DA σ id ver n G σ := by
  refine ⟨h, ?_⟩
  apply List.ext_getElem?
  intro j
  by_cases hj : j = id
  · subst hj; rw [List.getElem?_set_self (List.getElem?_eq_some_iff.1 h).1, h]
  · rw [List.getElem?_set_ne (fun e => hj e.symm)]
theorem DA.put {σ0 σ : List O} {id ver n : Nat} {G H : Nat → V} (h : DA σ0 id ver n G σ) : DA σ0 id ver n H (σ.set id (.row ver (rowV n H))) := by
  obtain ⟨h1, h2⟩ := h
  have hlt := (List.getElem?_eq_some_iff.1 h1).1
  refine ⟨List.getElem?_set_self hlt, ?_⟩
  rw [h2, List.set_set]
/-- What a function leaves that swaps within a range. -/
def SwQ (σ : List O) (id ver n a b : Nat) (F : Nat → V) (X : (Nat → V) → Prop) (w : V) : V → List O → Prop := fun v σ' => v = w ∧ ∃ G, Sw a b F G ∧ X G ∧ DA σ id ver n G σ'
theorem fin_Q {rs : List IRes} {σ0 σ : List O} {Q : V → List O → Prop} {md : Md} {env : Env} (h : resK rs env σ fun vs => Q (retV vs) σ) : finQ rs σ0 Q md env σ :=
  fun _ => resK_mono h fun vs h => ⟨_, _, h, .inr ⟨rfl, rfl⟩⟩
def Srt (lt : V → V → Bool) (a b : Nat) (F : Nat → V) : Prop := ∀ i j, a ≤ i → i < j → j < b → lt (F j) (F i) = false
abbrev slV (id ver n : Nat) : V := .s id ver 0 n 1

/-- The end of a range turned round. -/
theorem rev_ok {f : FuncId} {fn : Func} {ex : List Nat} (hf : Fn_ Tryz.prog f fn ex grev grrev) {cv : V} {D : V → Prop} {lt : V → V → Bool} (hcmp : CmpOK cv D lt) {σ : List O} {id ver n a b : Nat} {F : Nat → V} (hD : ∀ k, k < n → D (F k)) (hab : a < b) (hbn : b ≤ n) (hn : n ≤ 1000000) (hσ : σ[id]? = some (.row ver (rowV n F))) :
    FSpecQ Tryz.prog f [slV id ver n, .i .i64 a, .i .i64 b, cv] σ (SwQ σ id ver n a b F (fun _ => True) (.tup [])) := by
  refine hf.specQ mixed noIt_ok ?_
  rw [grev]
  refine ab_seq_k fun K1 h1 => ?_
  simp
  refine h1 _ _ _ ?_
  clear h1 K1
  refine ab_seq_k fun K2 h2 => ?_
  simp [wrap64 (x := (b : Int) - 1) (by omega) (by omega)]
  refine h2 _ _ _ ?_
  clear h2 K2
  refine ab_block_k fun K5 h5 => ?_
  refine ab_loop_k (fun m env σ' => ∃ (i : Nat) (j : Int) (G : Nat → V), (j + 1 - i).toNat = m ∧ a ≤ i ∧ i ≤ b ∧ -1 ≤ j ∧ j < b ∧ env = [(0, slV id ver n), (8, .i .i64 i), (9, .i .i64 j)] ∧ Sw a b F G ∧ DA σ id ver n G σ') _ ⟨a, (b : Int) - 1, F, rfl, by omega, by omega, by omega, by omega, by simp, .refl F, DA.mk0 hσ⟩ ?_
  rintro m env σ' ⟨i, j, G, hm, h1, h2, h3, h4, rfl, hsw, hda⟩ K6 h6
  have hat := hda.at_
  obtain ⟨hat1, hat'⟩ := List.getElem?_eq_some_iff.1 hat
  rw [grev_0]
  refine ab_seq_k fun K7 h7 => ?_
  refine ab_seq_k fun K8 h8 => ?_
  simp
  refine h8 _ _ _ ?_
  clear h8 K8
  refine ab_cond_of rfl (fun hc => ?_) (fun hc => ?_)
  · have hij : (i : Int) < j := by simpa using hc
    obtain ⟨jn, rfl⟩ : ∃ jn : Nat, j = jn := ⟨j.toNat, by omega⟩
    have hin : i < n := by omega
    have hjn : jn < n := by omega
    have hGD := fun k hk => hsw.alln hbn hD (k := k) hk
    have c1 := hcmp.one _ (hGD i hin)
    have c2 := hcmp.one _ (hGD jn hjn)
    simp
    refine h7 _ _ _ ?_
    clear h7 K7
    refine ab_block_k fun K9 h9 => ?_
    refine ab_seq_k fun K10 h10 => ?_
    have hs1 : ∀ c, (σ'.set id c)[id]? = some c := fun c => List.getElem?_set_self hat1
    simp [abDs_consU, drU, recheck_cons, recheck_nil, rcK, IS.dst, hat, hat', hin, hjn, rowV_get, hs1, c1, c2]
    rw [rowV_swp]
    refine h10 _ _ _ ?_
    clear h10 K10
    refine ab_seq_k fun K11 h11 => ?_
    simp [wrap64 (x := (i : Int) + 1) (by omega) (by omega)]
    refine h11 _ _ _ ?_
    clear h11 K11
    simp [wrap64 (x := (jn : Int) - 1) (by omega) (by omega)]
    refine h9 _ _ _ ?_
    exact h6 _ _ _ (again _ (by omega) ⟨i + 1, (jn : Int) - 1, swp G i jn, rfl, by omega, by omega, by omega, by omega, by simp, .step i jn hsw (by omega) (by omega) (by omega) (by omega), hda.put⟩)
  · simp
    refine h5 _ _ _ (fin_Q ?_)
    simp [grrev]
    exact ⟨rfl, G, hsw, trivial, hda⟩
end Go.Ab
end

section
/- The library's insertion sort. -/
set_option linter.unusedVariables false
set_option linter.unusedSimpArgs false
set_option maxHeartbeats 4000000
set_option maxRecDepth 100000
namespace Go.Ab
open Go Go.Proofs

section
variable {cv : V} {D : V → Prop} {lt : V → V → Bool}
/-- All but what stands at j is in order. -/
def InsI (lt : V → V → Bool) (a i j : Nat) (G : Nat → V) : Prop := ∀ p q, a ≤ p → p < q → q ≤ i → q ≠ j → lt (G q) (G p) = false
theorem ins_step (hcmp : CmpOK cv D lt) {a i j : Nat} {G : Nat → V} (hD : ∀ k, k ≤ i → D (G k)) (h : InsI lt a i (j + 1) G) (haj : a ≤ j) (hji : j + 1 ≤ i) (hl : lt (G (j + 1)) (G j) = true) : InsI lt a i j (swp G (j + 1) j) := by
  have has := hcmp.asym _ _ (hD (j + 1) (by omega)) (hD j (by omega)) hl
  intro p q h1 h2 h3 h4
  rw [swp_at, swp_at]
  rw [if_neg h4]
  by_cases q1 : q = j + 1
  · rw [if_pos q1]
    by_cases p1 : p = j
    · rw [if_pos p1]; exact has
    · rw [if_neg p1, if_neg (by omega)]
      exact h p j h1 (by omega) (by omega) (by omega)
  · rw [if_neg q1]
    by_cases p1 : p = j
    · rw [if_pos p1]
      exact h (j + 1) q (by omega) (by omega) h3 q1
    · rw [if_neg p1]
      by_cases p2 : p = j + 1
      · rw [if_pos p2]
        exact h j q haj (by omega) h3 q1
      · rw [if_neg p2]
        exact h p q h1 h2 h3 q1
theorem ins_done (hcmp : CmpOK cv D lt) {a i j : Nat} {G : Nat → V} (hD : ∀ k, k ≤ i → D (G k)) (h : InsI lt a i j G) (hji : j ≤ i) (hl : a < j → lt (G j) (G (j - 1)) = false) : Srt lt a (i + 1) G := by
  intro p q h1 h2 h3
  by_cases hq : q = j
  · subst hq
    have h4 := hl (by omega)
    by_cases hp : p = q - 1
    · rw [hp]; exact h4
    · exact hcmp.ntr _ (G (q - 1)) _ (hD q (by omega)) (hD (q - 1) (by omega)) (hD p (by omega)) h4 (h p (q - 1) h1 (by omega) (by omega) (by omega))
  · exact h p q h1 h2 (by omega) hq

theorem ins_ok {f : FuncId} {fn : Func} {ex : List Nat} (hf : Fn_ Tryz.prog f fn ex gins grins) (hcmp : CmpOK cv D lt) {σ : List O} {id ver n a b : Nat} {F : Nat → V} (hD : ∀ k, k < n → D (F k)) (hab : a ≤ b) (hbn : b ≤ n) (hn : n ≤ 1000000) (hσ : σ[id]? = some (.row ver (rowV n F))) :
    FSpecQ Tryz.prog f [slV id ver n, .i .i64 a, .i .i64 b, cv] σ (SwQ σ id ver n a b F (Srt lt a b) (.tup [])) := by
  refine hf.specQ mixed noIt_ok ?_
  rw [gins]
  refine ab_seq_k fun K1 h1 => ?_
  simp [wrap64 (x := (a : Int) + 1) (by omega) (by omega)]
  refine h1 _ _ _ ?_
  clear h1 K1
  refine ab_block_k fun K2 h2 => ?_
  refine ab_loop_k (fun m env σ' => ∃ (i : Nat) (G : Nat → V), b - i = m ∧ a + 1 ≤ i ∧ (i ≤ b ∨ a = b) ∧ env = [(0, slV id ver n), (1, .i .i64 a), (2, .i .i64 b), (3, cv), (8, .i .i64 i)] ∧ Sw a b F G ∧ Srt lt a i G ∧ DA σ id ver n G σ') _ ⟨a + 1, F, rfl, by omega, by omega, by simp, .refl F, fun p q _ _ _ => by omega, DA.mk0 hσ⟩ ?_
  rintro m env σ' ⟨i, G, hm, g1, g2, rfl, hsw, hso, hda⟩ K3 h3
  rw [gins_1]
  refine ab_seq_k fun K4 h4 => ?_
  refine ab_seq_k fun K5 h5 => ?_
  simp
  refine h5 _ _ _ ?_
  clear h5 K5
  refine ab_cond_of rfl (fun hc => ?_) (fun hc => ?_)
  · have hib : i < b := by simpa using hc
    simp
    refine h4 _ _ _ ?_
    clear h4 K4
    refine ab_seq_k fun K6 h6 => ?_
    refine ab_block_k fun K7 h7 => ?_
    refine ab_seq_k fun K8 h8 => ?_
    simp
    refine h8 _ _ _ ?_
    clear h8 K8
    have hend : ∀ env G σ', get env 0 = slV id ver n → get env 1 = .i .i64 a → get env 2 = .i .i64 b → get env 3 = cv → get env 8 = .i .i64 i → Sw a b F G → Srt lt a (i + 1) G → DA σ id ver n G σ' → K7 (some 0) env σ' := by
      intro env G σ' w0 w1 w2 w3 w8 s1 s2 s3
      refine h7 _ _ _ (h6 _ _ _ ?_)
      simp [w0, w1, w2, w3, w8, wrap64 (x := (i : Int) + 1) (by omega) (by omega)]
      exact h3 _ _ _ (again _ (by omega) ⟨i + 1, G, rfl, by omega, by omega, by simp, s1, s2, s3⟩)
    clear h6 h7 h3
    refine ab_block_k fun K9 h9 => ?_
    refine ab_loop_k (fun m env σ' => ∃ (j : Nat) (G : Nat → V), j = m ∧ a ≤ j ∧ j ≤ i ∧ env = [(0, slV id ver n), (1, .i .i64 a), (2, .i .i64 b), (3, cv), (8, .i .i64 i), (9, .i .i64 j)] ∧ Sw a b F G ∧ InsI lt a i j G ∧ DA σ id ver n G σ') i ⟨i, G, rfl, by omega, Nat.le_refl _, by simp, hsw, fun p q h1 h2 h3 h4 => hso p q h1 h2 (by omega), hda⟩ ?_
    clear hsw hso hda hm G σ'
    rintro m2 env σ' ⟨j, G, rfl, j1, j2, rfl, hsw, hin, hda⟩ K10 h10
    have hat := hda.at_
    obtain ⟨hat1, hat'⟩ := List.getElem?_eq_some_iff.1 hat
    have hGD := fun k hk => hsw.alln hbn hD (k := k) hk
    rw [gins_0]
    refine ab_seq_k fun K11 h11 => ?_
    refine ab_seq_k fun K12 h12 => ?_
    by_cases hja : a < j
    · obtain ⟨j, rfl⟩ : ∃ j', j = j' + 1 := ⟨j - 1, by omega⟩
      have hjn : j + 1 < n := by omega
      have hjn' : j < n := by omega
      have c1 := hcmp.one _ (hGD _ hjn)
      have c2 := hcmp.one _ (hGD _ hjn')
      have hpos : (a : Int) < (j : Int) + 1 := by omega
      have z1 : (0 : Int) ≤ (j : Int) + 1 := by omega
      have z2 : (j : Int) + 1 < n := by omega
      have z3 : (j : Int) < n := by omega
      have zj := wrap64 (x := (j : Int)) (by omega) (by omega)
      have hs1 : ∀ c, (σ'.set id c)[id]? = some c := fun c => List.getElem?_set_self hat1
      simp [abDs_consU, drU, recheck_cons, recheck_nil, rcK, IS.dst, hpos, z1, z2, z3, zj, hat, hat', hjn, hjn', rowV_get]
      refine callv_cmp hcmp (hGD _ hjn) (hGD _ hjn') fun c hcc => ?_
      simp [abDs_consU, drU, recheck_cons, recheck_nil, rcK, IS.dst, hcc]
      refine h12 _ _ _ ?_
      clear h12 K12
      cases hl : lt (G (j + 1)) (G j) with
      | true =>
        refine ab_cond_of rfl (fun _ => ?_) (fun h => by cases h)
        simp
        refine h11 _ _ _ ?_
        clear h11 K11
        refine ab_seq_k fun K13 h13 => ?_
        refine ab_block_k fun K14 h14 => ?_
        simp [abDs_consU, drU, recheck_cons, recheck_nil, rcK, IS.dst, hpos, z1, z2, z3, zj, hat, hat', hjn, hjn', rowV_get, hs1, c1, c2]
        rw [rowV_swp]
        refine h14 _ _ _ (h13 _ _ _ ?_)
        simp [zj]
        refine h10 _ _ _ (again j (by omega) ⟨j, swp G (j + 1) j, rfl, by omega, by omega, by simp [zj], .step _ _ hsw (by omega) (by omega) (by omega) (by omega), ins_step hcmp (fun k hk => hGD k (by omega)) hin (by omega) (by omega) hl, hda.put⟩)
      | false =>
        refine ab_cond_of rfl (fun h => by cases h) (fun _ => ?_)
        simp
        refine h9 _ _ _ ?_
        exact hend _ G _ rfl rfl rfl rfl rfl hsw (ins_done hcmp (fun k hk => hGD k (by omega)) hin (by omega) (fun _ => hl)) hda
    · have hje : j = a := by omega
      simp [abDs_consU, drU, recheck_cons, recheck_nil, rcK, IS.dst, hje]
      refine h12 _ _ _ ?_
      refine ab_cond_of rfl (fun h => by cases h) (fun _ => ?_)
      simp
      refine h9 _ _ _ ?_
      exact hend _ G _ rfl rfl rfl rfl rfl hsw (ins_done hcmp (fun k hk => hGD k (by omega)) hin (by omega) (fun h => by omega)) hda
  · have hib : b ≤ i := by simp at hc; omega
    simp
    refine h2 _ _ _ (fin_Q ?_)
    simp [grins]
    exact ⟨rfl, G, hsw, fun p q h1 h2 h3 => hso p q h1 h2 (by omega), hda⟩
end
end Go.Ab
end
