/- The fewest keys: plain; the reference's; Fewest and Kind of both. -/
import Derived.Test.YtgndegccjhdmmaaGreatMF
set_option linter.unusedVariables false
set_option linter.unusedSimpArgs false
set_option maxHeartbeats 4000000
set_option maxRecDepth 100000
namespace Go.Ab
open Go Go.Proofs

theorem pc12 {s : Nat} (h : s < 2 ^ 12) : pc s = (bl s 12).length := by
  unfold pc
  have := bl_sh (s := s) (k := 12) (j := 4) h
  rw [show 16 = 12 + 4 from rfl, this]
def stepF (out : List Nat) (x : Nat) : List Nat := match out with
  | [] => [x]
  | y :: r => if pc x = pc y then y :: r ++ [x] else if pc x < pc y then [x] else y :: r
def refF (l : List Nat) : List Nat := l.foldl stepF []
theorem refF_snoc {l : List Nat} {x : Nat} : refF (l ++ [x]) = stepF (refF l) x := by simp [refF]
def minQ (l : List Nat) (s : Nat) : Bool := l.all fun t => decide (pc s ≤ pc t)
theorem minQ_iff {l : List Nat} {s : Nat} : minQ l s = true ↔ ∀ t ∈ l, pc s ≤ pc t := by
  unfold minQ; rw [List.all_eq_true]; simp
theorem refF_spec (l : List Nat) : refF l = l.filter (minQ l) := by
  refine snoc_ind (P := fun l => refF l = l.filter (minQ l)) rfl ?_ l
  intro l x ih
  rw [refF_snoc, ih]
  have hmin : l ≠ [] → ∃ y ∈ l, minQ l y = true := fun hne => by
    cases l with
    | nil => exact absurd rfl hne
    | cons a r =>
      obtain ⟨s, h1, h2⟩ := least_ex (p := fun s => s ∈ a :: r) (m := pc) (pc a) ⟨a, List.mem_cons_self .., Nat.le_refl _⟩
      exact ⟨s, h1, minQ_iff.2 h2⟩
  cases hf : l.filter (minQ l) with
  | nil =>
    have hl : l = [] := by
      false_or_by_contra
      rename_i hne
      obtain ⟨y, h1, h2⟩ := hmin hne
      have : y ∈ l.filter (minQ l) := List.mem_filter.2 ⟨h1, h2⟩
      rw [hf] at this; cases this
    subst hl
    simp [stepF, minQ]
  | cons y r =>
    have hy : y ∈ l.filter (minQ l) := by rw [hf]; exact List.mem_cons_self ..
    obtain ⟨hy1, hy2⟩ := List.mem_filter.1 hy
    rw [minQ_iff] at hy2
    rw [List.filter_append]
    have hx : minQ (l ++ [x]) x = decide (pc x ≤ pc y) := by
      rw [Bool.eq_iff_iff, minQ_iff, decide_eq_true_eq]
      constructor
      · intro h; exact h y (List.mem_append.2 (.inl hy1))
      · intro h t ht
        rcases List.mem_append.1 ht with ht | ht
        · have := hy2 t ht; omega
        · rw [List.mem_singleton] at ht; subst ht; exact Nat.le_refl _
    have hold : ∀ s ∈ l, minQ (l ++ [x]) s = (minQ l s && decide (pc s ≤ pc x)) := fun s _ => by
      rw [Bool.eq_iff_iff, Bool.and_eq_true, minQ_iff, minQ_iff, decide_eq_true_eq]
      constructor
      · intro h; exact ⟨fun t ht => h t (List.mem_append.2 (.inl ht)), h x (List.mem_append.2 (.inr (List.mem_singleton.2 rfl)))⟩
      · rintro ⟨h1, h2⟩ t ht
        rcases List.mem_append.1 ht with ht | ht
        · exact h1 t ht
        · rw [List.mem_singleton] at ht; subst ht; exact h2
    have hey : ∀ s ∈ l, minQ l s = true → pc s = pc y := fun s hs h => by
      have h1 := minQ_iff.1 h y hy1
      have h2 := hy2 s hs
      omega
    simp only [stepF]
    by_cases c1 : pc x = pc y
    · rw [if_pos c1]
      have : l.filter (minQ (l ++ [x])) = y :: r := by
        rw [← hf]
        refine List.filter_congr fun s hs => ?_
        rw [hold s hs]
        cases hm : minQ l s with
        | false => rfl
        | true => have := hey s hs hm; simp; omega
      rw [this]
      simp [hx, c1]
    · rw [if_neg c1]
      by_cases c2 : pc x < pc y
      · rw [if_pos c2]
        have : l.filter (minQ (l ++ [x])) = [] := by
          rw [List.filter_eq_nil_iff]
          intro s hs
          rw [hold s hs]
          have := hy2 s hs
          simp
          intro _
          omega
        rw [this]
        have : pc x ≤ pc y := by omega
        simp [hx, this]
      · rw [if_neg c2]
        have : l.filter (minQ (l ++ [x])) = y :: r := by
          rw [← hf]
          refine List.filter_congr fun s hs => ?_
          rw [hold s hs]
          cases hm : minQ l s with
          | false => rfl
          | true => have := hey s hs hm; simp; omega
        rw [this]
        have : ¬ pc x ≤ pc y := by omega
        simp [hx, this]
theorem few_eq {J : List Lg} (hN : J.length ≤ 12) : fewL J = refF (lexS (keysTo J (2 ^ J.length))) := by
  have hkn := keys_ne hN
  have hklt := keys_lt hN
  rw [refF_spec]
  unfold fewL
  generalize keysTo J (2 ^ J.length) = K at *
  have hSp : (sortG setL K).Perm K := sortG_perm (lt := setL)
  have hSs : (sortG setL K).Pairwise (fun a b => setL b a = false) := sortG_sorted (lt := setL) (fun a b h => setL_asym h) (fun a b c h1 h2 => setL_ntr h1 h2)
  generalize sortG setL K = S at *
  have hLp := lexS_perm (l := K)
  have hLs := lexS_sorted (l := K)
  generalize lexS K = M at *
  obtain ⟨y, S', rfl⟩ : ∃ y S', S = y :: S' := by
    cases S with
    | nil => exact absurd hSp.symm.eq_nil hkn
    | cons y S' => exact ⟨y, S', rfl⟩
  have hy0 : (y :: S').getD 0 0 = y := rfl
  rw [hy0]
  have hyK : y ∈ K := hSp.mem_iff.1 (List.mem_cons_self ..)
  have hymin : ∀ t ∈ K, pc y ≤ pc t := fun t ht => by
    have := hSp.mem_iff.2 ht
    rcases List.mem_cons.1 this with rfl | h
    · exact Nat.le_refl _
    · rw [List.pairwise_cons] at hSs
      have := hSs.1 t h
      unfold setL at this
      simp only [Bool.or_eq_false_iff, decide_eq_false_iff_not] at this
      omega
  have hpq : ∀ s ∈ K, (!decide (pc y < pc s)) = minQ M s := fun s hs => by
    rw [Bool.eq_iff_iff, Bool.not_eq_true', decide_eq_false_iff_not, minQ_iff]
    constructor
    · intro h t ht
      have := hymin t (hLp.mem_iff.1 ht)
      omega
    · intro h
      have := h y (hLp.mem_iff.2 hyK)
      omega
  have hA : ((y :: S').filter fun s => !decide (pc y < pc s)).Perm (K.filter fun s => !decide (pc y < pc s)) := hSp.filter _
  have hB : (M.filter (minQ M)).Perm (K.filter (minQ M)) := hLp.filter _
  have hC : K.filter (fun s => !decide (pc y < pc s)) = K.filter (minQ M) := List.filter_congr hpq
  rw [hC] at hA
  have hAm : ∀ s ∈ (y :: S').filter (fun s => !decide (pc y < pc s)), s ∈ K ∧ pc s = pc y := fun s hs => by
    obtain ⟨h1, h2⟩ := List.mem_filter.1 hs
    have h3 := hSp.mem_iff.1 h1
    have := hymin s h3
    simp at h2
    exact ⟨h3, by omega⟩
  refine perm_sorted_eq (le := fun a b => lexN b a = false) (hA.trans hB.symm) ?_ ?_ ?_
  · refine List.Pairwise.imp_of_mem ?_ (hSs.sublist List.filter_sublist)
    intro a b ha hb h
    have e1 := (hAm a ha).2
    have e2 := (hAm b hb).2
    unfold setL at h
    simp only [Bool.or_eq_false_iff, Bool.and_eq_false_iff, decide_eq_false_iff_not] at h
    exact h.2.resolve_left (by omega)
  · exact hLs.sublist List.filter_sublist
  · intro a ha b hb h1 h2
    exact bl_inj (hklt a (hAm a ha).1) (hklt b (hAm b hb).1) (lexL_tri h2 h1)
theorem few_ne {J : List Lg} (hN : J.length ≤ 12) : fewL J ≠ [] := by
  rw [few_eq hN, refF_spec]
  have hkn := keys_ne hN
  have hLp := lexS_perm (l := keysTo J (2 ^ J.length))
  generalize lexS (keysTo J (2 ^ J.length)) = M at *
  have hM : M ≠ [] := fun e => by rw [e] at hLp; exact hkn (hLp.symm.eq_nil)
  intro e
  cases M with
  | nil => exact hM rfl
  | cons a r =>
    obtain ⟨s, h1, h2⟩ := least_ex (p := fun s => s ∈ a :: r) (m := pc) (pc a) ⟨a, List.mem_cons_self .., Nat.le_refl _⟩
    have : s ∈ (a :: r).filter (minQ (a :: r)) := List.mem_filter.2 ⟨h1, minQ_iff.2 h2⟩
    rw [e] at this; cases this
theorem few_lt {J : List Lg} (hN : J.length ≤ 12) : ∀ s ∈ fewL J, s < 2 ^ 12 := fun s hs => by
  rw [few_eq hN, refF_spec] at hs
  exact keys_lt hN s (lexS_perm.mem_iff.1 (List.mem_filter.1 hs).1)
theorem few_len {J : List Lg} (hN : J.length ≤ 12) : (fewL J).length ≤ 4096 := by
  rw [few_eq hN, refF_spec]
  have h1 := List.length_filter_le (minQ (lexS (keysTo J (2 ^ J.length)))) (lexS (keysTo J (2 ^ J.length)))
  rw [lexS_len] at h1
  have h2 := keysTo_len (J := J) (i := 2 ^ J.length)
  have h3 := pow12 hN
  omega

/-! ### Fewest -/
def few0 (J : List Lg) : Nat := (fewL J).getD 0 0
def fewV (J : List Lg) : V := if checkJ J ≠ 0 then .tup [.ss [] 0 true, .i .i64 (checkJ J)] else .tup [listV (few0 J), .i .i64 0]
theorem fewV_pure {J} : (fewV J).pure = true := by
  unfold fewV
  split
  · rfl
  · simp [listV]
theorem fewest29 {J : List Lg} {f : Bool} {σ : List O} (hJ : J.length ≤ 1000000) (hl : ∀ x ∈ J, x.2.1.length ≤ 1000000) : FSpec Tryz.prog 29 [jamV J f] σ (fewV J) σ := by
  refine FSpec.frame (σ := σ) ?_ (by simp) fewV_pure
  have h62 := fun σ => open62 (f := f) (l := []) (fl := true) (σ := σ) hJ hl (by simp)
  refine fn29.spec0 mixed noIt_ok ?_
  rw [ic29]
  refine ab_seq_k fun K1 h1 => ?_
  simp
  refine h1 _ _ _ ?_
  clear h1 K1
  refine ab_seq_k fun K2 h2 => ?_
  simp
  refine callK_of (h62 _) ?_
  rcases open_nil (f := f) hl with ⟨hc, ho⟩ | ⟨hc, hJO, ho⟩
  · have hv : fewV J = .tup [.ss [] 0 true, .i .i64 (checkJ J)] := by unfold fewV; rw [if_pos hc]
    rw [ho]
    simp
    refine h2 _ _ _ ?_
    clear h2 K2
    refine ab_seq_k fun K3 h3 => ?_
    refine ab_seq_k fun K5 h5 => ?_
    simp
    refine h5 _ _ _ ?_
    clear h5 K5
    refine ab_cond_of rfl (fun _ => ?_) (fun h => by simp at h; omega)
    refine ab_seq_k fun K6 h6 => ?_
    simp
    refine h6 _ _ _ ?_
    clear h6 K6
    simp
    refine fin_of 3 ?_
    simp [rs29, hv]
  · have hN := hJO.2.1
    have h74 := fun σ => few74 (J := J) (f := f) (σ := σ) hN
    have hv : fewV J = .tup [listV (few0 J), .i .i64 0] := by unfold fewV; rw [if_neg (by simp [hc])]
    have hne := few_ne hN
    have hlt := few_lt hN
    unfold few0 at hv
    generalize fewL J = L at *
    have hL0 : 0 < L.length := Nat.pos_of_ne_zero fun h => hne (List.length_eq_zero_iff.1 h)
    have hx : L[0]? = some (L.getD 0 0) := by rw [List.getD_eq_getElem?_getD, List.getElem?_eq_getElem hL0]; rfl
    have hxl := hlt _ (List.mem_of_getElem? hx)
    generalize L.getD 0 0 = x at *
    obtain ⟨hx1, hx'⟩ := List.getElem?_eq_some_iff.1 hx
    rw [ho]
    simp
    refine h2 _ _ _ ?_
    clear h2 K2
    refine ab_seq_k fun K3 h3 => ?_
    refine ab_seq_k fun K5 h5 => ?_
    simp
    refine h5 _ _ _ ?_
    clear h5 K5
    refine ab_cond_of rfl (fun h => by simp at h) (fun _ => ?_)
    simp
    refine h3 _ _ _ ?_
    clear h3 K3
    refine ab_seq_k fun K7 h7 => ?_
    simp
    refine callK_of (h74 _) ?_
    simp [hL0, hx, hx']
    refine callK_of (list68 (by omega)) ?_
    simp
    refine h7 _ _ _ ?_
    simp
    refine fin_of 3 ?_
    simp [rs29, hv, listV]

theorem rfew75 {J : List Lg} {f : Bool} {σ : List O} (hJ : J.length ≤ 1000000) (hl : ∀ x ∈ J, x.2.1.length ≤ 1000000) (hc : checkJ J = 0) : FSpec Tryz.prog 75 [jamV J f] σ (.ss (lv (fewL J)) (fewL J).length false) σ := by
  refine FSpec.frame (σ := σ) ?_ (by simp) (by simp)
  have hJO := check_ok hl hc
  have hN := hJO.2.1
  have hpw := pow12 hN
  have h32 := fun σ => keys32 (f := f) (σ := σ) hJ hl
  have hv : keysV J = .tup [.ss (lv (lexS (keysTo J (2 ^ J.length)))) (keysTo J (2 ^ J.length)).length ((keysTo J (2 ^ J.length)).length == 0), .i .i64 0] := by unfold keysV; rw [if_neg (by simp [hc])]
  rw [hv] at h32
  have hkl := keysTo_len (J := J) (i := 2 ^ J.length)
  have hMl : (lexS (keysTo J (2 ^ J.length))).length = (keysTo J (2 ^ J.length)).length := lexS_len
  have hne := few_ne hN
  have hMlt : ∀ s ∈ lexS (keysTo J (2 ^ J.length)), s < 2 ^ 12 := fun s hs => keys_lt hN s (lexS_perm.mem_iff.1 hs)
  rw [few_eq hN] at hne ⊢
  rw [← hMl] at h32 hkl
  generalize lexS (keysTo J (2 ^ J.length)) = M at *
  generalize (M.length == 0) = fl at h32
  refine qf75.spec0 mixed noIt_ok ?_
  rw [q75]
  refine ab_seq_k fun K1 h1 => ?_
  simp
  refine h1 _ _ _ ?_
  clear h1 K1
  refine ab_seq_k fun K2 h2 => ?_
  simp
  refine callK_of (h32 _) ?_
  simp
  refine h2 _ _ _ ?_
  clear h2 K2
  refine ab_seq_k fun K3 h3 => ?_
  simp
  refine h3 _ _ _ ?_
  clear h3 K3
  refine ab_seq_k fun K4 h4 => ?_
  refine ab_seq_k fun K5 h5 => ?_
  simp
  refine h5 _ _ _ ?_
  clear h5 K5
  refine ab_block_k fun K6 h6 => ?_
  refine ab_loop_k (fun m env σ => ∃ (i : Nat) (v : V), i + m = M.length ∧ env = [(3, .ss (lv M) M.length fl), (5, v), (6, .i .i64 i)] ∧ Gr 0 1 σ v (refF (M.take i)).length (lv (refF (M.take i)))) M.length ⟨0, .ss [] 0 true, by omega, by simp, by simpa [refF, lv] using Gr.nil⟩ ?_
  rintro m env σ ⟨i, v, hi, rfl, hv⟩ K7 h7
  rw [q75_0]
  refine ab_seq_k fun K8 h8 => ?_
  refine ab_seq_k fun K9 h9 => ?_
  simp
  refine h9 _ _ _ ?_
  clear h9 K9
  refine ab_cond_of rfl (fun hc1 => ?_) (fun hc1 => ?_)
  · have hil : i < M.length := by simpa using hc1
    have hx : M[i]? = some M[i] := List.getElem?_eq_getElem hil
    have hxm := hMlt _ (List.getElem_mem hil)
    have hst : refF (M.take (i + 1)) = stepF (refF (M.take i)) M[i] := by rw [List.take_add_one, hx]; exact refF_snoc
    have hRlt : ∀ s ∈ refF (M.take i), s < 2 ^ 12 := fun s hs => by
      rw [refF_spec] at hs
      exact hMlt s (List.mem_of_mem_take (List.mem_filter.1 hs).1)
    have hRl : (refF (M.take i)).length ≤ 4096 := by
      rw [refF_spec]
      have h1 := List.length_filter_le (minQ (M.take i)) (M.take i)
      rw [List.length_take] at h1
      omega
    generalize M[i] = x at *
    have hlx := lv_get hx
    obtain ⟨hlx1, hlx'⟩ := List.getElem?_eq_some_iff.1 hlx
    have hpcx : (bl x 12).length = pc x := (pc12 hxm).symm
    simp
    refine h8 _ _ _ ?_
    clear h8 K8
    refine ab_seq_k fun K10 h10 => ?_
    refine ab_block_k fun K11 h11 => ?_
    have hend : ∀ env σ v, get env 3 = .ss (lv M) M.length fl → get env 5 = v → get env 6 = .i .i64 i → Gr 0 1 σ v (refF (M.take (i + 1))).length (lv (refF (M.take (i + 1)))) → K11 (some 0) env σ := by
      intro env σ v w3 w5 w6 hg
      refine h11 _ _ _ (h10 _ _ _ ?_)
      simp [w3, w5, w6, wrap64 (x := (i : Int) + 1) (by omega) (by omega)]
      exact h7 _ _ _ (again (m - 1) (by omega) ⟨i + 1, v, by omega, by simp, hg⟩)
    clear h10 h11 h7
    have hone := listV_one (s := x)
    have hxl : listV x = .ss (ints (bl x 12)) (bl x 12).length ((bl x 12).length == 0) := rfl
    generalize hRR : refF (M.take i) = R at *
    refine ab_seq_k fun K12 h12 => ?_
    cases R with
    | nil =>
      rcases hv.cases with ⟨-, -, rfl⟩ | ⟨id, ver, hn0, -, -, -, -⟩
      · simp [abDs_consU, drU, recheck_cons, recheck_nil, rcK, IS.dst]
        refine h12 _ _ _ ?_
        refine ab_cond_of rfl (fun _ => ?_) (fun h => by cases h)
        simp [hil, hlx, hlx', hone]
        refine hend _ _ _ rfl rfl rfl ?_
        rw [hst]
        exact ⟨rfl, .inr ⟨by simp [stepF], σ.length, 0, by omega, rfl, by simp [stepF, lv]⟩⟩
      · simp at hn0
    | cons y r =>
      have hym := hRlt y (List.mem_cons_self ..)
      have hpcy : (bl y 12).length = pc y := (pc12 hym).symm
      rcases hv.cases with ⟨hn0, -, -⟩ | ⟨id, ver, hn0, hid, rfl, hs, hlt⟩
      · simp at hn0
      obtain ⟨hs1, hs'⟩ := List.getElem?_eq_some_iff.1 hs
      have hc0 : (lv (y :: r))[0]? = some (listV y) := rfl
      have hyl : listV y = .ss (ints (bl y 12)) (bl y 12).length ((bl y 12).length == 0) := rfl
      have hn1 : ((r.length : Int) + 1 = 0) = False := eq_false (by omega)
      have hn2 : (0 : Int) < (r.length : Int) + 1 := by omega
      generalize hC : lv (y :: r) = CC at *
      obtain ⟨hc01, hc0'⟩ := List.getElem?_eq_some_iff.1 hc0
      rw [hpcx] at hxl
      rw [hpcy] at hyl
      simp [abDs_consU, drU, recheck_cons, recheck_nil, rcK, IS.dst, hs, hs', hlt, hn1, hn2, hil, hlx, hlx', hxl, hyl, hc0, hc0']
      refine h12 _ _ _ ?_
      clear h12 K12
      by_cases c1 : pc x = pc y
      · refine ab_cond_of rfl (fun _ => ?_) (fun h => by simp [c1] at h)
        have hst' : refF (M.take (i + 1)) = y :: r ++ [x] := by rw [hst]; simp [stepF, c1]
        have hone' := hone
        rw [hxl] at hone' hlx hlx'
        simp [hil, hlx, hlx', hone']
        refine appG hv (by omega) (by simp at hRl ⊢; omega) (by omega) rfl ?_
        intro v' σ' hv' hgr
        simp
        refine hend _ _ _ rfl rfl rfl ?_
        rw [hst', lv_append, hC]
        have e : lv [x] = [V.ss (ints (bl x 12)) (pc x) (pc x == 0)] := by rw [← hxl]; rfl
        rw [e]
        simpa using hv'
      · refine ab_cond_of rfl (fun h => by simp at h; omega) (fun _ => ?_)
        refine ab_seq_k fun K13 h13 => ?_
        have hxl' := hlx
        rw [hxl] at hlx hlx'
        rw [hyl] at hc0 hc0'
        simp [abDs_consU, drU, recheck_cons, recheck_nil, rcK, IS.dst, hs, hs', hlt, hn2, hil, hlx, hlx', hc0, hc0']
        refine h13 _ _ _ ?_
        by_cases c2 : pc x < pc y
        · refine ab_cond_of rfl (fun _ => ?_) (fun h => by simp [c2] at h)
          have hst' : refF (M.take (i + 1)) = [x] := by rw [hst]; simp [stepF, c1, c2]
          have hone' := hone
          rw [hxl] at hone'
          simp [hil, hlx, hlx', hone']
          refine hend _ _ _ (by simp) rfl rfl ?_
          rw [hst', show lv [x] = [V.ss (ints (bl x 12)) (pc x) (pc x == 0)] from by rw [← hxl]; rfl]
          exact ⟨rfl, .inr ⟨by simp, σ.length, 0, by omega, rfl, by simp⟩⟩
        · refine ab_cond_of rfl (fun h => by simp [c2] at h) (fun _ => ?_)
          have hst' : refF (M.take (i + 1)) = y :: r := by rw [hst]; simp [stepF, c1, c2]
          simp
          refine hend _ _ _ (by simp) rfl rfl ?_
          rw [hst', hC]
          exact hv
  · have hil : i = M.length := by simp at hc1; omega
    subst hil
    rw [List.take_length] at hv
    simp
    refine h6 _ _ _ (h4 _ _ _ ?_)
    refine ab_seq_k fun K20 h20 => ?_
    simp
    refine h20 _ _ _ ?_
    clear h20 K20
    simp
    refine fin_of 2 ?_
    have hz : ((refF M).length == 0) = false := beq_eq_false_iff_ne.2 fun h => hne (List.length_eq_zero_iff.1 h)
    simp [-frz, rs75]
    rw [frz_G hv (by simp), hz]
end Go.Ab
