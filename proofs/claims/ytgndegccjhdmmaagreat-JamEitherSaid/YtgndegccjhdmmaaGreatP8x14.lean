import Derived.Test.YtgndegccjhdmmaaGreatP8x13
/- Part 14 of what the theorem in T8 rests on: an abstract layer over the calculus, contracts of the functions of the program, and plain facts. -/
set_option linter.unusedVariables false
set_option linter.unusedSimpArgs false
set_option linter.constructorNameAsVariable false
set_option maxHeartbeats 4000000
set_option maxRecDepth 100000
section
namespace Go.Ab
open Go Go.Proofs
theorem left_full {J : List Lg} : left J (2 ^ J.length - 1) = 0 := by
 apply Nat.eq_of_testBit_eq
 intro j
 rw [Nat.zero_testBit]
 by_cases hj : j < J.length
 ·rw [left_bit hj]
  refine decide_eq_false ?_
  rw [wave_key hj (by rw [Nat.testBit_two_pow_sub_one]; simp [hj])]
  omega
 ·exact Nat.testBit_lt_two_pow (Nat.lt_of_lt_of_le left_N (Nat.pow_le_pow_right (by omega) (by omega)))
theorem pc_less {s n : Nat} (hs : s < 2 ^ 16) (h : s.testBit n = true) : pc (less s (2 ^ n)) < pc s := by
 have hn : n < 16 := by
  false_or_by_contra
  have := Nat.testBit_lt_two_pow (Nat.lt_of_lt_of_le hs (Nat.pow_le_pow_right (n := 2) (by omega) (by omega : 16 ≤ n)))
  rw [this] at h; cases h
 refine bl_lt (fun j hj => ?_) ⟨n, hn, ?_, h⟩
 ·rw [less_bit] at hj
  simp at hj
  exact hj.1
 ·rw [less_bit, Nat.testBit_two_pow_self]
  simp
theorem tight_iff {J : List Lg} {s : Nat} (hs : s < 2 ^ 12) : tightB J s = true ↔ left J s = 0 ∧ ∀ n, s.testBit n = true → left J (less s (2 ^ n)) ≠ 0 := by
 unfold tightB looseTo
 rw [List.take_of_length_le bl_len, Bool.and_eq_true, decide_eq_true_eq, Bool.not_eq_true', List.any_eq_false]
 refine and_congr_right fun _ => ?_
 constructor
 ·intro h n hn
  have hn12 : n < 12 := bit_small hs hn
  have := h n (bl_mem.2 ⟨n, hn12, rfl, hn⟩)
  simpa using this
 ·intro h x hx
  obtain ⟨j, hj, rfl, hb⟩ := bl_mem.1 hx
  simpa using h j hb
theorem keys_ne {J : List Lg} (hN : J.length ≤ 12) : keysTo J (2 ^ J.length) ≠ [] := by
 have hpw := pow12 hN
 obtain ⟨s, ⟨h1, h2⟩, h3⟩ := least_ex (p := fun s => s < 2 ^ J.length ∧ left J s = 0) (m := pc) _ ⟨2 ^ J.length - 1, ⟨by omega, left_full⟩, Nat.le_refl _⟩
 have : s ∈ keysTo J (2 ^ J.length) := by
  unfold keysTo
  rw [List.mem_filter, List.mem_range]
  refine ⟨h1, (tight_iff (by omega)).2 ⟨h2, fun n hn hl => ?_⟩⟩
  have := h3 (less s (2 ^ n)) ⟨less_lt h1, hl⟩
  have := pc_less (by omega) hn
  omega
 intro e
 rw [e] at this
 cases this
theorem keys_lt {J : List Lg} (hN : J.length ≤ 12) : ∀ s ∈ keysTo J (2 ^ J.length), s < 2 ^ 12 := fun s hs => by
 have hpw := pow12 hN
 have := (List.mem_filter.1 hs).1
 rw [List.mem_range] at this
 omega
def fewL (J : List Lg) : List Nat := (sortG setL (keysTo J (2 ^ J.length))).filter fun s => !decide (pc ((sortG setL (keysTo J (2 ^ J.length))).getD 0 0) < pc s)
theorem few107 {c id ver n x y : Nat} {cells : List V} {τ : List O} (hx : x < 65536) (hy : y < 65536) (h1 : τ[c]? = some (.row 0 [.s id ver 0 n 1])) (h2 : τ[id]? = some (.row ver cells)) (h3 : cells[0]? = some (u16V y)) (hn : n ≠ 0) : FSpec Tryz.prog 107 [u16V x, .p c 0 0] τ (.b (decide (pc y < pc x))) τ := by
 refine fn107.spec mixed noIt_ok ?_
 rw [ic107]
 obtain ⟨g1, g1'⟩ := List.getElem?_eq_some_iff.1 h1
 obtain ⟨g2, g2'⟩ := List.getElem?_eq_some_iff.1 h2
 obtain ⟨g3, g3'⟩ := List.getElem?_eq_some_iff.1 h3
 refine ab_seq_k fun K1 h1 => ?_
 simp
 refine h1 _ _ _ ?_
 clear h1 K1
 refine ab_seq_k fun K2 h2' => ?_
 simp [abDs_consU, drU, recheck_cons, recheck_nil, rcK, IS.dst]
 refine callK_of (many92 hx) ?_
 have hn' : 0 < n := by omega
 simp [abDs_consU, drU, recheck_cons, recheck_nil, rcK, IS.dst, h1, g1', h2, g2', h3, g3', hn']
 refine callK_of (many92 hy) ?_
 simp [abDs_consU, drU, recheck_cons, recheck_nil, rcK, IS.dst]
 refine h2' _ _ _ ?_
 simp
 refine fin_all ?_
 simp [rs107]
theorem few74 {J : List Lg} {f : Bool} {σ : List O} (hN : J.length ≤ 12) : FSpec Tryz.prog 74 [heapV J f] σ (.ss (us (fewL J)) (fewL J).length false) σ := by
 refine FSpec.frame (σ := σ) ?_ (by simp) (by simp)
 have hpw := pow12 hN
 have hkn := keys_ne hN
 have hkl := keysTo_len (J := J) (i := 2 ^ J.length)
 have hklt := keys_lt hN
 have h77 := fun σ => keys77 (J := J) (f := f) (σ := σ) hN
 unfold fewL
 generalize keysTo J (2 ^ J.length) = K at *
 have hSl : (sortG setL K).length = K.length := sortG_len (lt := setL)
 have hSp : (sortG setL K).Perm K := sortG_perm (lt := setL)
 have hSs : (sortG setL K).Pairwise (fun a b => setL b a = false) := sortG_sorted (lt := setL) (fun a b h => setL_asym h) (fun a b c h1 h2 => setL_ntr h1 h2)
 generalize hS : sortG setL K = S at *
 have hSn : S ≠ [] := fun e => hkn (List.length_eq_zero_iff.1 (by rw [← hSl, e]; rfl))
 have hSlt : ∀ s ∈ S, s < 2 ^ 12 := fun s hs => hklt s (hSp.mem_iff.1 hs)
 obtain ⟨y, S', hyS⟩ : ∃ y S', S = y :: S' := by
  cases S with
  | nil => exact absurd rfl hSn
  | cons y S' => exact ⟨y, S', rfl⟩
 have hy0 : S.getD 0 0 = y := by rw [hyS]; rfl
 have hS0 : S[0]? = some y := by rw [hyS]; rfl
 have hym : y ∈ S := List.mem_of_getElem? hS0
 clear hyS
 rw [hy0]
 clear hy0 S'
 generalize hFL : S.filter (fun s => !decide (pc y < pc s)) = FL
 refine FSpecQ.freeze (Q := fun v σ' => SlL σ' v (us FL)) ?_ (fun v σ' h => ⟨2, by rw [h.frz (by simp), us_len]⟩)
 refine qf74.specQ mixed noIt_ok ?_
 rw [q74]
 have hhp : (heapV J f).pure = true := by simp
 generalize heapV J f = H at *
 refine ab_seq_k fun K1 h1 => ?_
 simp
 refine h1 _ _ _ ?_
 clear h1 K1
 refine ab_seq_k fun K2 h2 => ?_
 simp
 refine callR_of (h77 _) ?_
 rintro v σ2 ⟨hv, -⟩
 simp [hv.one]
 refine h2 _ _ _ ?_
 clear h2 K2
 have hv2 := hv.app (g := [O.row 0 [v]])
 have hcell : (σ2 ++ [O.row 0 [v]])[σ2.length]? = some (.row 0 [v]) := by simp
 have hbid : idOf v ≠ some σ2.length := fun e => by have := (hv.id_ge e).2; omega
 generalize hc : σ2.length = c at *
 generalize σ2 ++ [O.row 0 [v]] = σ3 at *
 obtain ⟨hc1, hc'⟩ := List.getElem?_eq_some_iff.1 hcell
 have hDU : ∀ x ∈ us K, DU x := fun x hx => by
  obtain ⟨s, hs, rfl⟩ := List.mem_map.1 hx
  exact ⟨s, hklt s hs, rfl⟩
 have hso : (us S).Pairwise (fun x y => setL (unU y) (unU x) = false) := by
  unfold us
  rw [List.pairwise_map]
  refine hSs.imp fun {a b} h => ?_
  simpa [unU] using h
 obtain ⟨σ4, hsrt, hv4, -, hoth⟩ := srtU hv2 (by omega) hDU (hSp.map _) hso
 have hcell4 : σ4[c]? = some (.row 0 [v]) := by rw [hoth c hbid]; exact hcell
 obtain ⟨hd1, hd'⟩ := List.getElem?_eq_some_iff.1 hcell4
 refine ab_seq_k fun K2 h2 => ?_
 simp [hcell, hc']
 refine callK_of hsrt ?_
 simp
 refine h2 _ _ _ ?_
 clear h2 K2
 refine ab_seq_k fun K2 h2 => ?_
 simp [hcell4, hd']
 have hn0 : K.length ≠ 0 := fun h => hkn (List.length_eq_zero_iff.1 h)
 refine callR_of (delete80 (first := []) (cap := [.p c 0 0]) (p := fun s => decide (pc y < pc s)) hv4 hSn (by omega) ?_) ?_
 ·intro x hx τ t1 t2
  rcases hv4.cases with ⟨e1, -, -⟩ | ⟨id, ver, -, hid, e2, hs, hlt⟩
  ·exact absurd e1 hn0
  ·obtain ⟨cells, a1, a2⟩ := t2 id ver (by rw [e2])
   have a3 := a2 (fun y' hy' => by rw [hS0] at hy'; cases hy'; simp)
   rw [us_get hS0] at a3
   have hyl := hSlt y hym
   have hxl := hSlt x hx
   refine few107 (c := c) (id := id) (ver := ver) (n := K.length) (x := x) (y := y) (by omega) (by omega) ?_ a1 a3 hn0
   rw [t1 c hbid, hcell4, e2]
 ·rintro v' σ5 h5
  rw [hFL] at h5
  simp
  refine h2 _ _ _ ?_
  simp
  refine fin_Q ?_
  simp [rs74]
  exact h5
end Go.Ab
end
section
namespace Go.Ab
open Go Go.Proofs
theorem pc12 {s : Nat} (h : s < 2 ^ 12) : pc s = (bl s 12).length := by
 unfold pc
 have := bl_sh (s := s) (k := 12) (j := 4) h
 rw [show 16 = 12 + 4 from rfl, this]
def stepF (out : List Nat) (x : Nat) : List Nat := match out with
 | [] => [x]
 | y :: r => if pc x = pc y then y :: r ++ [x] else if pc x < pc y then [x] else y :: r
def refF (l : List Nat) : List Nat := l.foldl stepF []
theorem refF_snoc {l : List Nat} {x : Nat} : refF (l ++ [x]) = stepF (refF l) x := by simp [refF]
def minQ (l : List Nat) (s : Nat) : Bool := l.all fun t => decide (pc s ≤ pc t)
theorem minQ_iff {l : List Nat} {s : Nat} : minQ l s = true ↔ ∀ t ∈ l, pc s ≤ pc t := by
 unfold minQ; rw [List.all_eq_true]; simp
theorem refF_spec (l : List Nat) : refF l = l.filter (minQ l) := by
 refine snoc_ind (P := fun l => refF l = l.filter (minQ l)) rfl ?_ l
 intro l x ih
 rw [refF_snoc, ih]
 have hmin : l ≠ [] → ∃ y ∈ l, minQ l y = true := fun hne => by
  cases l with
  | nil => exact absurd rfl hne
  | cons a r =>
   obtain ⟨s, h1, h2⟩ := least_ex (p := fun s => s ∈ a :: r) (m := pc) (pc a) ⟨a, List.mem_cons_self .., Nat.le_refl _⟩
   exact ⟨s, h1, minQ_iff.2 h2⟩
 cases hf : l.filter (minQ l) with
 | nil =>
  have hl : l = [] := by
   false_or_by_contra
   rename_i hne
   obtain ⟨y, h1, h2⟩ := hmin hne
   have : y ∈ l.filter (minQ l) := List.mem_filter.2 ⟨h1, h2⟩
   rw [hf] at this; cases this
  subst hl
  simp [stepF, minQ]
 | cons y r =>
  have hy : y ∈ l.filter (minQ l) := by rw [hf]; exact List.mem_cons_self ..
  obtain ⟨hy1, hy2⟩ := List.mem_filter.1 hy
  rw [minQ_iff] at hy2
  rw [List.filter_append]
  have hx : minQ (l ++ [x]) x = decide (pc x ≤ pc y) := by
   rw [Bool.eq_iff_iff, minQ_iff, decide_eq_true_eq]
   constructor
   ·intro h; exact h y (List.mem_append.2 (.inl hy1))
   ·intro h t ht
    rcases List.mem_append.1 ht with ht | ht
    ·have := hy2 t ht; omega
    ·rw [List.mem_singleton] at ht; subst ht; exact Nat.le_refl _
  have hold : ∀ s ∈ l, minQ (l ++ [x]) s = (minQ l s && decide (pc s ≤ pc x)) := fun s _ => by
   rw [Bool.eq_iff_iff, Bool.and_eq_true, minQ_iff, minQ_iff, decide_eq_true_eq]
   constructor
   ·intro h; exact ⟨fun t ht => h t (List.mem_append.2 (.inl ht)), h x (List.mem_append.2 (.inr (List.mem_singleton.2 rfl)))⟩
   ·rintro ⟨h1, h2⟩ t ht
    rcases List.mem_append.1 ht with ht | ht
    ·exact h1 t ht
    ·rw [List.mem_singleton] at ht; subst ht; exact h2
  have hey : ∀ s ∈ l, minQ l s = true → pc s = pc y := fun s hs h => by
   have h1 := minQ_iff.1 h y hy1
   have h2 := hy2 s hs
   omega
  simp only [stepF]
  by_cases c1 : pc x = pc y
  ·rw [if_pos c1]
   have : l.filter (minQ (l ++ [x])) = y :: r := by
    rw [← hf]
    refine List.filter_congr fun s hs => ?_
    rw [hold s hs]
    cases hm : minQ l s with
    | false => rfl
    | true => have := hey s hs hm; simp; omega
   rw [this]
   simp [hx, c1]
  ·rw [if_neg c1]
   by_cases c2 : pc x < pc y
   ·rw [if_pos c2]
    have : l.filter (minQ (l ++ [x])) = [] := by
     rw [List.filter_eq_nil_iff]
     intro s hs
     rw [hold s hs]
     have := hy2 s hs
     simp
     intro _
     omega
    rw [this]
    have : pc x ≤ pc y := by omega
    simp [hx, this]
   ·rw [if_neg c2]
    have : l.filter (minQ (l ++ [x])) = y :: r := by
     rw [← hf]
     refine List.filter_congr fun s hs => ?_
     rw [hold s hs]
     cases hm : minQ l s with
     | false => rfl
     | true => have := hey s hs hm; simp; omega
    rw [this]
    have : ¬ pc x ≤ pc y := by omega
    simp [hx, this]
theorem few_eq {J : List Lg} (hN : J.length ≤ 12) : fewL J = refF (lexS (keysTo J (2 ^ J.length))) := by
 have hkn := keys_ne hN
 have hklt := keys_lt hN
 rw [refF_spec]
 unfold fewL
 generalize keysTo J (2 ^ J.length) = K at *
 have hSp : (sortG setL K).Perm K := sortG_perm (lt := setL)
 have hSs : (sortG setL K).Pairwise (fun a b => setL b a = false) := sortG_sorted (lt := setL) (fun a b h => setL_asym h) (fun a b c h1 h2 => setL_ntr h1 h2)
 generalize sortG setL K = S at *
 have hLp := lexS_perm (l := K)
 have hLs := lexS_sorted (l := K)
 generalize lexS K = M at *
 obtain ⟨y, S', rfl⟩ : ∃ y S', S = y :: S' := by
  cases S with
  | nil => exact absurd hSp.symm.eq_nil hkn
  | cons y S' => exact ⟨y, S', rfl⟩
 have hy0 : (y :: S').getD 0 0 = y := rfl
 rw [hy0]
 have hyK : y ∈ K := hSp.mem_iff.1 (List.mem_cons_self ..)
 have hymin : ∀ t ∈ K, pc y ≤ pc t := fun t ht => by
  have := hSp.mem_iff.2 ht
  rcases List.mem_cons.1 this with rfl | h
  ·exact Nat.le_refl _
  ·rw [List.pairwise_cons] at hSs
   have := hSs.1 t h
   unfold setL at this
   simp only [Bool.or_eq_false_iff, decide_eq_false_iff_not] at this
   omega
 have hpq : ∀ s ∈ K, (!decide (pc y < pc s)) = minQ M s := fun s hs => by
  rw [Bool.eq_iff_iff, Bool.not_eq_true', decide_eq_false_iff_not, minQ_iff]
  constructor
  ·intro h t ht
   have := hymin t (hLp.mem_iff.1 ht)
   omega
  ·intro h
   have := h y (hLp.mem_iff.2 hyK)
   omega
 have hA : ((y :: S').filter fun s => !decide (pc y < pc s)).Perm (K.filter fun s => !decide (pc y < pc s)) := hSp.filter _
 have hB : (M.filter (minQ M)).Perm (K.filter (minQ M)) := hLp.filter _
 have hC : K.filter (fun s => !decide (pc y < pc s)) = K.filter (minQ M) := List.filter_congr hpq
 rw [hC] at hA
 have hAm : ∀ s ∈ (y :: S').filter (fun s => !decide (pc y < pc s)), s ∈ K ∧ pc s = pc y := fun s hs => by
  obtain ⟨h1, h2⟩ := List.mem_filter.1 hs
  have h3 := hSp.mem_iff.1 h1
  have := hymin s h3
  simp at h2
  exact ⟨h3, by omega⟩
 refine perm_sorted_eq (le := fun a b => lexN b a = false) (hA.trans hB.symm) ?_ ?_ ?_
 ·refine List.Pairwise.imp_of_mem ?_ (hSs.sublist List.filter_sublist)
  intro a b ha hb h
  have e1 := (hAm a ha).2
  have e2 := (hAm b hb).2
  unfold setL at h
  simp only [Bool.or_eq_false_iff, Bool.and_eq_false_iff, decide_eq_false_iff_not] at h
  exact h.2.resolve_left (by omega)
 ·exact hLs.sublist List.filter_sublist
 ·intro a ha b hb h1 h2
  exact bl_inj (hklt a (hAm a ha).1) (hklt b (hAm b hb).1) (lexL_tri h2 h1)
theorem few_ne {J : List Lg} (hN : J.length ≤ 12) : fewL J ≠ [] := by
 rw [few_eq hN, refF_spec]
 have hkn := keys_ne hN
 have hLp := lexS_perm (l := keysTo J (2 ^ J.length))
 generalize lexS (keysTo J (2 ^ J.length)) = M at *
 have hM : M ≠ [] := fun e => by rw [e] at hLp; exact hkn (hLp.symm.eq_nil)
 intro e
 cases M with
 | nil => exact hM rfl
 | cons a r =>
  obtain ⟨s, h1, h2⟩ := least_ex (p := fun s => s ∈ a :: r) (m := pc) (pc a) ⟨a, List.mem_cons_self .., Nat.le_refl _⟩
  have : s ∈ (a :: r).filter (minQ (a :: r)) := List.mem_filter.2 ⟨h1, minQ_iff.2 h2⟩
  rw [e] at this; cases this
theorem few_lt {J : List Lg} (hN : J.length ≤ 12) : ∀ s ∈ fewL J, s < 2 ^ 12 := fun s hs => by
 rw [few_eq hN, refF_spec] at hs
 exact keys_lt hN s (lexS_perm.mem_iff.1 (List.mem_filter.1 hs).1)
def few0 (J : List Lg) : Nat := (fewL J).getD 0 0
def fewV (J : List Lg) : V := if checkJ J ≠ 0 then .tup [.ss [] 0 true, .i .i64 (checkJ J)] else .tup [listV (few0 J), .i .i64 0]
theorem fewV_pure {J} : (fewV J).pure = true := by
 unfold fewV
 split
 ·rfl
 ·simp [listV]
theorem fewest29 {J : List Lg} {f : Bool} {σ : List O} (hJ : J.length ≤ 1000000) (hl : ∀ x ∈ J, x.2.1.length ≤ 1000000) : FSpec Tryz.prog 29 [jamV J f] σ (fewV J) σ := by
 refine FSpec.frame (σ := σ) ?_ (by simp) fewV_pure
 have h62 := fun σ => open62 (f := f) (l := []) (fl := true) (σ := σ) hJ hl (by simp)
 refine fn29.spec0 mixed noIt_ok ?_
 rw [ic29]
 refine ab_seq_k fun K1 h1 => ?_
 simp
 refine h1 _ _ _ ?_
 clear h1 K1
 refine ab_seq_k fun K2 h2 => ?_
 simp
 refine callK_of (h62 _) ?_
 rcases open_nil (f := f) hl with ⟨hc, ho⟩ | ⟨hc, hJO, ho⟩
 ·have hv : fewV J = .tup [.ss [] 0 true, .i .i64 (checkJ J)] := by unfold fewV; rw [if_pos hc]
  rw [ho]
  simp
  refine h2 _ _ _ ?_
  clear h2 K2
  refine ab_seq_k fun K3 h3 => ?_
  refine ab_seq_k fun K5 h5 => ?_
  simp
  refine h5 _ _ _ ?_
  clear h5 K5
  refine ab_cond_of rfl (fun _ => ?_) (fun h => by simp at h; omega)
  refine ab_seq_k fun K6 h6 => ?_
  simp
  refine h6 _ _ _ ?_
  clear h6 K6
  simp
  refine fin_of 3 ?_
  simp [rs29, hv]
 ·have hN := hJO.2.1
  have h74 := fun σ => few74 (J := J) (f := f) (σ := σ) hN
  have hv : fewV J = .tup [listV (few0 J), .i .i64 0] := by unfold fewV; rw [if_neg (by simp [hc])]
  have hne := few_ne hN
  have hlt := few_lt hN
  unfold few0 at hv
  generalize fewL J = L at *
  have hL0 : 0 < L.length := Nat.pos_of_ne_zero fun h => hne (List.length_eq_zero_iff.1 h)
  have hx : L[0]? = some (L.getD 0 0) := by rw [List.getD_eq_getElem?_getD, List.getElem?_eq_getElem hL0]; rfl
  have hxl := hlt _ (List.mem_of_getElem? hx)
  generalize L.getD 0 0 = x at *
  obtain ⟨hx1, hx'⟩ := List.getElem?_eq_some_iff.1 hx
  rw [ho]
  simp
  refine h2 _ _ _ ?_
  clear h2 K2
  refine ab_seq_k fun K3 h3 => ?_
  refine ab_seq_k fun K5 h5 => ?_
  simp
  refine h5 _ _ _ ?_
  clear h5 K5
  refine ab_cond_of rfl (fun h => by simp at h) (fun _ => ?_)
  simp
  refine h3 _ _ _ ?_
  clear h3 K3
  refine ab_seq_k fun K7 h7 => ?_
  simp
  refine callK_of (h74 _) ?_
  simp [hL0, hx, hx']
  refine callK_of (list68 (by omega)) ?_
  simp
  refine h7 _ _ _ ?_
  simp
  refine fin_of 3 ?_
  simp [rs29, hv, listV]
end Go.Ab
end
section
namespace Go.Ab
open Go Go.Proofs
theorem keys_mem {J : List Lg} {s : Nat} (hN : J.length ≤ 12) : s ∈ keysTo J (2 ^ J.length) ↔ s < 2 ^ J.length ∧ left J s = 0 ∧ ∀ n, s.testBit n = true → left J (less s (2 ^ n)) ≠ 0 := by
 have hpw := pow12 hN
 unfold keysTo
 rw [List.mem_filter, List.mem_range]
 exact and_congr_right fun h => tight_iff (by omega)
theorem keys_under {J : List Lg} {s : Nat} (hN : J.length ≤ 12) (hs : s < 2 ^ J.length) (h : left J s = 0) : ∃ u, u ∈ keysTo J (2 ^ J.length) ∧ less u s = 0 := by
 have hpw := pow12 hN
 obtain ⟨u, ⟨h1, h2, h3⟩, h4⟩ := least_ex (p := fun u => u < 2 ^ J.length ∧ left J u = 0 ∧ less u s = 0) (m := pc) _ ⟨s, ⟨hs, h, less_zero.2 fun _ hj => hj⟩, Nat.le_refl _⟩
 refine ⟨u, (keys_mem hN).2 ⟨h1, h2, fun n hn hl => ?_⟩, h3⟩
 have h5 := h4 (less u (2 ^ n)) ⟨less_lt h1, hl, less_zero.2 fun j hj => less_zero.1 h3 j (by rw [less_bit, Bool.and_eq_true] at hj; exact hj.1)⟩
 have := pc_less (by omega) hn
 omega
theorem pc_sub {u s : Nat} (h : less u s = 0) : pc u ≤ pc s := bl_sublen (less_zero.1 h)
theorem few0_spec {J : List Lg} (hN : J.length ≤ 12) : few0 J ∈ keysTo J (2 ^ J.length) ∧ ∀ t ∈ keysTo J (2 ^ J.length), pc (few0 J) ≤ pc t := by
 have hne := few_ne (J := J) hN
 have hm : few0 J ∈ fewL J := by
  unfold few0
  cases h : fewL J with
  | nil => exact absurd h hne
  | cons a l => exact List.mem_cons_self ..
 rw [few_eq hN, refF_spec] at hm
 obtain ⟨h1, h2⟩ := List.mem_filter.1 hm
 rw [minQ_iff] at h2
 exact ⟨lexS_perm.mem_iff.1 h1, fun t ht => h2 t (lexS_perm.mem_iff.2 ht)⟩
theorem few0_left {J : List Lg} (hN : J.length ≤ 12) : few0 J < 2 ^ J.length ∧ left J (few0 J) = 0 := by
 obtain ⟨h1, h2, -⟩ := (keys_mem hN).1 (few0_spec hN).1
 exact ⟨h1, h2⟩
theorem few0_le {J : List Lg} {s : Nat} (hN : J.length ≤ 12) (hs : s < 2 ^ J.length) (h : left J s = 0) : pc (few0 J) ≤ pc s := by
 obtain ⟨u, hu, hus⟩ := keys_under hN hs h
 exact Nat.le_trans ((few0_spec hN).2 u hu) (pc_sub hus)
theorem keyE_bl {J : List Lg} {s k : Nat} (hc : checkJ J = 0) (hs : s < 2 ^ J.length) (hk : J.length ≤ k) : keyE J (bl s k) = if left J s ≠ 0 then 21 else 0 := by
 have h12 : s < 2 ^ k := Nat.lt_of_lt_of_le hs (Nat.pow_le_pow_right (by omega) hk)
 unfold keyE
 rw [if_neg (by simp [hc]), isL_bl hs, if_neg (by decide), setB_bl h12]
end Go.Ab
end
section
namespace Go.Ab
open Go Go.Proofs
def locksV (J : List Lg) : V := if checkJ J ≠ 0 then .tup [.ss [] 0 true, .i .i64 (checkJ J)] else .tup [.ss (lv (lexS (locksTo J (2 ^ J.length)))) (locksTo J (2 ^ J.length)).length ((locksTo J (2 ^ J.length)).length == 0), .i .i64 0]
theorem locksV_pure {J} : (locksV J).pure = true := by
 unfold locksV
 split
 ·rfl
 ·simp
theorem locks36 {J : List Lg} {f : Bool} {σ : List O} (hJ : J.length ≤ 1000000) (hl : ∀ x ∈ J, x.2.1.length ≤ 1000000) : FSpec Tryz.prog 36 [jamV J f] σ (locksV J) σ := by
 refine FSpec.frame (σ := σ) ?_ (by simp) locksV_pure
 have h62 := fun σ => open62 (f := f) (l := []) (fl := true) (σ := σ) hJ hl (by simp)
 refine fn36.spec0 mixed noIt_ok ?_
 rw [ic36]
 refine ab_seq_k fun K1 h1 => ?_
 simp
 refine h1 _ _ _ ?_
 clear h1 K1
 refine ab_seq_k fun K2 h2 => ?_
 simp
 refine callK_of (h62 _) ?_
 rcases open_nil (f := f) hl with ⟨hc, ho⟩ | ⟨hc, hJO, ho⟩
 ·have hv : locksV J = .tup [.ss [] 0 true, .i .i64 (checkJ J)] := by unfold locksV; rw [if_pos hc]
  rw [ho]
  simp
  refine h2 _ _ _ ?_
  clear h2 K2
  refine ab_seq_k fun K3 h3 => ?_
  refine ab_seq_k fun K5 h5 => ?_
  simp
  refine h5 _ _ _ ?_
  clear h5 K5
  refine ab_cond_of rfl (fun _ => ?_) (fun h => by simp at h; omega)
  refine ab_seq_k fun K6 h6 => ?_
  simp
  refine h6 _ _ _ ?_
  clear h6 K6
  simp
  refine fin_of 3 ?_
  simp [rs36, hv]
 ·have hN := hJO.2.1
  have hpw := pow12 hN
  have hk := fun σ => locks84F (J := J) (f := f) (σ := σ) hJO
  have hkl := locksTo_len (J := J) (i := 2 ^ J.length)
  have hmem : ∀ s ∈ locksTo J (2 ^ J.length), s < 2 ^ 12 := fun s hs => by
   have := (List.mem_filter.1 hs).1
   rw [List.mem_range] at this
   omega
  have hv : locksV J = .tup [.ss (lv (lexS (locksTo J (2 ^ J.length)))) (locksTo J (2 ^ J.length)).length ((locksTo J (2 ^ J.length)).length == 0), .i .i64 0] := by unfold locksV; rw [if_neg (by simp [hc])]
  have hls := fun f σ => lists76 (L := locksTo J (2 ^ J.length)) (f := f) (σ := σ) hmem (by omega)
  generalize locksTo J (2 ^ J.length) = L at *
  rw [ho]
  simp
  refine h2 _ _ _ ?_
  clear h2 K2
  refine ab_seq_k fun K3 h3 => ?_
  refine ab_seq_k fun K5 h5 => ?_
  simp
  refine h5 _ _ _ ?_
  clear h5 K5
  refine ab_cond_of rfl (fun h => by simp at h) (fun _ => ?_)
  simp
  refine h3 _ _ _ ?_
  clear h3 K3
  refine ab_seq_k fun K7 h7 => ?_
  simp
  refine callK_of (hk _) ?_
  simp
  refine callK_of (hls _ _) ?_
  simp
  refine h7 _ _ _ ?_
  simp
  refine fin_of 3 ?_
  simp [rs36, hv]
end Go.Ab
end
section
namespace Go.Ab
open Go Go.Proofs
theorem works_run : runY 18 [] = some (.b true, []) := by kernel_rfl
theorem works_ok : FSpec Tryz.prog 18 [] [] (.b true) [] := runY_ok works_run
theorem wk (σ : List O) : FSpec Tryz.prog 18 [] σ (.b true) σ := FSpec.frame works_ok (by simp) rfl
end Go.Ab
end
section
namespace Go.Ab
open Go Go.Proofs
def ic8_0 : IC := (.seq (.seq (.reg [.op (some 126) none (.mov (.t 17)), .op (some 127) none (.mov (.t 15)), .op (some 128) none (.len (.t 127)), .op (some 129) none (.bin .lss (.t 126) (.t 128))] (some [7, 15, 17, 129])) (.cond (.t 129) .skip (.exit 0))) (.seq (.block 1 (.seq (.reg [.op (some 132) none (.mov (.t 15)), .op (some 133) none (.mov (.t 17)), .op (some 134) none (.ixs 1 (.t 132) (.t 133)), .op (some 135) none (.load1 (.t 134)), .op (some 136) none (.mov (.t 7)), .call (some 137) none 49 [(.t 135), (.t 136)], .op (some 138) none (.not (.t 137))] (some [7, 15, 17, 138])) (.cond (.t 138) (.seq (.reg [.op (some 6) none (.mov (.c (.b false)))] (some [6])) .ret) .skip))) (.reg [.op (some 130) none (.mov (.t 17)), .op (some 131) none (.bin .add (.t 130) (.c (.i .i64 1))), .op (some 17) none (.mov (.t 131))] (some [7, 15, 17]))))
def ic8 : IC := (.seq (.reg [.op (some 3) none (.box (.t 0)), .op (some 6) none (.mov (.c (.b false)))] (some [1, 2, 3])) (.seq (.seq (.reg [.op (some 18) none (.loadA 1 (.t 3)), .call (some 19) none 47 [(.t 18)], .op (some 20) none (.not (.t 19))] (some [1, 2, 3, 20])) (.cond (.t 20) (.seq (.reg [.call (some 21) none 18 [], .op (some 6) none (.mov (.t 21))] (some [6])) .ret) .skip)) (.seq (.drw [(.op (some 22) none (.loadA 1 (.t 3)), []), (.op (some 23) none (.mov (.t 1)), []), (.call (some 24) none 48 [(.t 22), (.t 23)], []), (.op (some 25) none (.loadA 1 (.t 3)), []), (.op (some 26) none (.mov (.t 2)), []), (.call (some 27) none 48 [(.t 25), (.t 26)], []), (.op (some 7) none (.mov (.t 24)), []), (.op (some 8) none (.mov (.t 27)), [])] (some [3, 7, 8])) (.seq (.drw [(.op (some 28) none (.loadA 1 (.t 3)), []), (.op (some 29) none (.mov (.t 7)), []), (.call (some 30) none 26 [(.t 28), (.t 29)], []), (.op (some 31) none (.loadA 1 (.t 3)), []), (.op (some 32) none (.mov (.t 8)), []), (.call (some 33) none 38 [(.t 31), (.t 32)], []), (.op (some 9) none (.mov (.t 30)), []), (.op (some 10) none (.mov (.t 33)), [])] (some [3, 7, 8, 9, 10])) (.seq (.reg [.op (some 35) none (.loadA 1 (.t 3)), .op (some 36) none (.mov (.t 7)), .call (some 37) none 21 [(.t 35), (.t 36)], .op (some 34) none (.mov (.t 37)), .op (some 38) none (.ext 0 (.t 34)), .op (some 39) none (.ext 1 (.t 34)), .op (some 11) none (.mov (.t 38)), .op (some 12) none (.mov (.t 39))] (some [3, 7, 8, 9, 10, 11, 12])) (.seq (.reg [.op (some 41) none (.loadA 1 (.t 3)), .call (some 42) none 29 [(.t 41)], .op (some 40) none (.mov (.t 42)), .op (some 43) none (.ext 0 (.t 40)), .op (some 44) none (.ext 1 (.t 40)), .op (some 13) none (.mov (.t 43)), .op (some 14) none (.mov (.t 44))] (some [3, 7, 8, 9, 10, 11, 12, 13, 14])) (.seq (.seq (.reg [.op (some 45) none (.mov (.t 14)), .op (some 46) none (.bin .neq (.t 45) (.c (.i .i64 0))), .op (some 47) none (.mov (.t 46)), .op (some 48) (some (47, false)) (.loadA 1 (.t 3)), .op (some 49) (some (47, false)) (.mov (.t 13)), .call (some 50) (some (47, false)) 26 [(.t 48), (.t 49)], .op (some 51) (some (47, false)) (.bin .neq (.t 50) (.c (.i .i64 0))), .op (some 52) none (.pick (.t 47) (.c (.b true)) (.t 51)), .op (some 53) none (.mov (.t 52)), .op (some 54) (some (53, false)) (.loadA 1 (.t 3)), .op (some 55) (some (53, false)) (.mov (.t 13)), .call (some 56) (some (53, false)) 27 [(.t 54), (.t 55)], .op (some 57) (some (53, false)) (.bin .neq (.t 56) (.c (.i .i64 0))), .op (some 58) none (.pick (.t 53) (.c (.b true)) (.t 57)), .op (some 59) none (.mov (.t 58)), .op (some 60) (some (59, false)) (.mov (.t 10)), .op (some 61) (some (59, false)) (.loadA 1 (.t 3)), .op (some 62) (some (59, false)) (.mov (.t 8)), .call (some 63) (some (59, false)) 39 [(.t 61), (.t 62)], .op (some 64) (some (59, false)) (.bin .neq (.t 60) (.t 63)), .op (some 65) none (.pick (.t 59) (.c (.b true)) (.t 64))] (some [3, 7, 8, 9, 10, 11, 12, 13, 65])) (.cond (.t 65) (.seq (.reg [.op (some 6) none (.mov (.c (.b false)))] (some [6])) .ret) .skip)) (.seq (.seq (.reg [.op (some 66) none (.mov (.t 9)), .op (some 67) none (.bin .neq (.t 66) (.c (.i .i64 0)))] (some [3, 7, 8, 9, 10, 11, 12, 13, 67])) (.cond (.t 67) (.seq (.reg [.op (some 68) none (.mov (.t 9)), .op (some 69) none (.bin .eql (.t 68) (.c (.i .i64 21))), .op (some 70) none (.mov (.t 69)), .op (some 71) (some (70, true)) (.mov (.t 12)), .op (some 72) (some (70, true)) (.bin .eql (.t 71) (.c (.i .i64 0))), .op (some 73) none (.pick (.t 70) (.t 72) (.c (.b false))), .op (some 74) none (.mov (.t 73)), .op (some 75) (some (74, true)) (.loadA 1 (.t 3)), .op (some 76) (some (74, true)) (.mov (.t 11)), .call (some 77) (some (74, true)) 38 [(.t 75), (.t 76)], .op (some 78) (some (74, true)) (.bin .eql (.t 77) (.c (.i .i64 0))), .op (some 79) none (.pick (.t 74) (.t 78) (.c (.b false))), .op (some 80) none (.mov (.t 79)), .op (some 81) (some (80, true)) (.loadA 1 (.t 3)), .op (some 82) (some (80, true)) (.mov (.t 11)), .call (some 83) (some (80, true)) 39 [(.t 81), (.t 82)], .op (some 84) (some (80, true)) (.bin .eql (.t 83) (.c (.i .i64 0))), .op (some 85) none (.pick (.t 80) (.t 84) (.c (.b false))), .op (some 86) none (.mov (.t 85)), .op (some 87) (some (86, true)) (.mov (.t 11)), .op (some 88) (some (86, true)) (.mov (.t 7)), .call (some 89) (some (86, true)) 49 [(.t 87), (.t 88)], .op (some 90) (some (86, true)) (.not (.t 89)), .op (some 91) none (.pick (.t 86) (.t 90) (.c (.b false))), .op (some 92) none (.mov (.t 91)), .call (some 93) (some (92, true)) 18 [], .op (some 94) none (.pick (.t 92) (.t 93) (.c (.b false))), .op (some 6) none (.mov (.t 94))] (some [6])) .ret) .skip)) (.seq (.seq (.reg [.op (some 95) none (.mov (.t 12)), .op (some 96) none (.bin .neq (.t 95) (.c (.i .i64 5))), .op (some 97) none (.mov (.t 96)), .op (some 98) (some (97, false)) (.mov (.t 11)), .op (some 99) (some (97, false)) (.len (.t 98)), .op (some 100) (some (97, false)) (.bin .neq (.t 99) (.c (.i .i64 0))), .op (some 101) none (.pick (.t 97) (.c (.b true)) (.t 100)), .op (some 102) none (.mov (.t 101)), .op (some 103) (some (102, false)) (.mov (.t 7)), .op (some 104) (some (102, false)) (.len (.t 103)), .op (some 105) (some (102, false)) (.mov (.t 13)), .op (some 106) (some (102, false)) (.len (.t 105)), .op (some 107) (some (102, false)) (.bin .lss (.t 104) (.t 106)), .op (some 108) none (.pick (.t 102) (.c (.b true)) (.t 107)), .op (some 109) none (.mov (.t 108)), .op (some 110) (some (109, false)) (.mov (.t 10)), .op (some 111) (some (109, false)) (.bin .eql (.t 110) (.c (.i .i64 0))), .op (some 112) (some (109, false)) (.mov (.t 111)), .op (some 113) (some (112, true)) (.mov (.t 7)), .op (some 114) (some (112, true)) (.mov (.t 8)), .call (some 115) (some (112, true)) 49 [(.t 113), (.t 114)], .op (some 116) (some (112, true)) (.not (.t 115)), .op (some 117) (some (109, false)) (.pick (.t 112) (.t 116) (.c (.b false))), .op (some 118) none (.pick (.t 109) (.c (.b true)) (.t 117))] (some [3, 7, 118])) (.cond (.t 118) (.seq (.reg [.op (some 6) none (.mov (.c (.b false)))] (some [6])) .ret) .skip)) (.seq (.reg [.op (some 120) none (.loadA 1 (.t 3)), .call (some 121) none 36 [(.t 120)], .op (some 119) none (.mov (.t 121)), .op (some 122) none (.ext 0 (.t 119)), .op (some 123) none (.ext 1 (.t 119)), .op (some 15) none (.mov (.t 122)), .op (some 16) none (.mov (.t 123))] (some [7, 15, 16])) (.seq (.seq (.reg [.op (some 124) none (.mov (.t 16)), .op (some 125) none (.bin .neq (.t 124) (.c (.i .i64 0)))] (some [7, 15, 125])) (.cond (.t 125) (.seq (.reg [.op (some 6) none (.mov (.c (.b false)))] (some [6])) .ret) .skip)) (.seq (.seq (.reg [.op (some 17) none (.mov (.c (.i .i64 0)))] (some [7, 15, 17])) (.block 0 (.loop (some [7, 15, 17]) ic8_0))) (.seq (.reg [.call (some 139) none 18 [], .op (some 6) none (.mov (.t 139))] (some [6])) .ret)))))))))))))
def rs8 : List IRes := [.tmp 6]
theorem fn8 : Fn_ Tryz.prog 8 Tryz.f8 [] ic8 rs8 := ⟨by kernel_rfl, by decide, by kernel_rfl, by kernel_rfl⟩
theorem meet_bl {a b k m : Nat} (ha : a < 2 ^ k) (hb : b < 2 ^ m) : meetB (bl a k) (bl b m) = true ↔ a &&& b ≠ 0 := by
 have := meet_set (A := bl a k) (B := bl b m) bl_nn bl_nn
 rwa [setB_bl ha, setB_bl hb] at this
theorem meet_bl_no {a b k m : Nat} (ha : a < 2 ^ k) (hb : b < 2 ^ m) (h : a &&& b = 0) : meetB (bl a k) (bl b m) = false := by
 cases hm : meetB (bl a k) (bl b m) with
 | false => rfl
 | true => exact absurd h ((meet_bl ha hb).1 hm)
theorem lockE_16 {J : List Lg} {s : Nat} (hc : checkJ J = 0) (hN : J.length ≤ 12) (hs : s < 2 ^ J.length) : lockE J (bl s 16) = if lockB J s = false then 21 else 0 := by
 have h16 : s < 2 ^ 16 := Nat.lt_of_lt_of_le hs (Nat.pow_le_pow_right (by omega) (by omega))
 unfold lockE
 rw [if_neg (fun h => h hc), isL_bl hs, setB_bl h16, if_neg (by decide)]
theorem jamEither {J : List Lg} {f : Bool} {a b : Nat} (ha : a < 65536) (hb : b < 65536) {σ : List O} : FSpec Tryz.prog 8 [jamV J f, .i .u16 a, .i .u16 b] σ (.b true) σ := by
 refine FSpec.frame (σ := σ) ?_ (by simp) rfl
 refine fn8.spec0 mixed noIt_ok ?_
 rw [ic8]
 refine ab_seq_k fun K1 h1 => ?_
 simp
 refine h1 _ _ _ ?_
 clear h1 K1
 refine ab_seq_k fun K2 h2 => ?_
 refine ab_seq_k fun K3 h3 => ?_
 simp
 refine callK_of fine47 ?_
 simp
 refine h3 _ _ _ ?_
 clear h3 K3
 cases hfi : fineB J with
 | false =>
  refine ab_cond_of rfl (fun _ => ?_) (fun h => by cases h)
  refine ab_seq_k fun K4 h4 => ?_
  simp
  refine callK_of (wk _) ?_
  simp
  refine h4 _ _ _ ?_
  clear h4 K4
  simp
  exact fin_of 1 (by simp [rs8])
 | true =>
  refine ab_cond_of rfl (fun h => by cases h) (fun _ => ?_)
  obtain ⟨hJO, hck, hp⟩ := fine_ok hfi
  have hcp : ∀ p ∈ J, isL J.length p.2.1 = true := fun p h => (hp p h).1
  have hN := hJO.2.1
  have hpw := pow12 hN
  have hJ1 : J.length ≤ 1000000 := by omega
  have hl1 : ∀ x ∈ J, x.2.1.length ≤ 1000000 := fun x hx => by have := (hp x hx).2.2; omega
  have q48a := fun σ => keys48 (f := f) (σ := σ) hJO ha
  have q48b := fun σ => keys48 (f := f) (σ := σ) hJO hb
  have hs := keysS_lt (J := J) (b := a)
  have ht := keysS_lt (J := J) (b := b)
  generalize keysS J a = s at *
  generalize keysS J b = t at *
  have hbs := bl_len (s := s) (k := 16)
  have hbt := bl_len (s := t) (k := 16)
  obtain ⟨hf1, hf2⟩ := few0_left (J := J) hN
  have hfl := bl_len (s := few0 J) (k := 12)
  have q26 := fun fk σ => checkKeys26 (f := f) (fk := fk) (k := bl s 16) (σ := σ) hJ1 hl1 (by omega)
  rw [keyE_bl hck hs (by omega)] at q26
  have q38 := fun fk σ => check38 (f := f) (fk := fk) (k := bl t 16) (σ := σ) hJ1 hl1 (by omega)
  have q39 := fun fk σ => check39 (f := f) (fk := fk) (k := bl t 16) (σ := σ) hJ1 hl1 (by omega)
  rw [lockE_16 hck hN ht] at q38 q39
  have q21 := fun fk σ => stays21 (f := f) (fk := fk) (k := bl s 16) (σ := σ) hJ1 hl1 (by omega)
  have hsv : staysV J (bl s 16) = if left J s = 0 then .tup [.ss [] 0 true, .i .i64 5] else .tup [sl (bl (left J s) 12) ((bl (left J s) 12).length == 0), .i .i64 0] := by
   unfold staysV
   rw [if_neg (fun h => h hck), isL_bl hs, if_neg (by decide), setB_bl (by omega)]
  rw [hsv] at q21
  have q29 := fun σ => fewest29 (f := f) (σ := σ) hJ1 hl1
  have hfv : fewV J = .tup [sl (bl (few0 J) 12) ((bl (few0 J) 12).length == 0), .i .i64 0] := by unfold fewV; rw [if_neg (fun h => h hck)]; rfl
  rw [hfv] at q29
  have q26f := fun fk σ => checkKeys26 (f := f) (fk := fk) (k := bl (few0 J) 12) (σ := σ) hJ1 hl1 (by omega)
  have q27f := fun fk σ => checkKeys27 (f := f) (fk := fk) (k := bl (few0 J) 12) (σ := σ) hJ1 hl1 (by omega)
  rw [keyE_bl hck hf1 hN, if_neg (fun h => h hf2)] at q26f q27f
  simp
  refine h2 _ _ _ ?_
  clear h2 K2
  refine ab_seq_k fun K5 h5 => ?_
  simp [abDs_consU, drU, recheck_cons, recheck_nil, rcK, IS.dst]
  refine callK_of (q48a _) ?_
  simp [abDs_consU, drU, recheck_cons, recheck_nil, rcK, IS.dst]
  refine callK_of (q48b _) ?_
  simp [abDs_consU, drU, recheck_cons, recheck_nil, rcK, IS.dst]
  refine h5 _ _ _ ?_
  clear h5 K5
  refine ab_seq_k fun K6 h6 => ?_
  simp [abDs_consU, drU, recheck_cons, recheck_nil, rcK, IS.dst]
  refine callK_of (q26 _ _) ?_
  simp [abDs_consU, drU, recheck_cons, recheck_nil, rcK, IS.dst]
  refine callK_of (q38 _ _) ?_
  simp [abDs_consU, drU, recheck_cons, recheck_nil, rcK, IS.dst]
  refine h6 _ _ _ ?_
  clear h6 K6
  by_cases hls : left J s = 0
  ·-- the keys free it
   have hfew : (bl (few0 J) 12).length ≤ (bl s 16).length := by
    have := few0_le hN hs hls
    rw [pc12 (by omega)] at this
    exact this
   have hmt : lockB J t = true → meetB (bl s 16) (bl t 16) = true := fun h => (meet_bl (by omega) (by omega)).2 (lock_meets hN (by omega) ht h hls)
   have q49 := fun fa fb σ => meet49 (A := bl s 16) (B := bl t 16) (fa := fa) (fb := fb) (σ := σ) (by omega) (by omega)
   rw [if_pos hls] at q21
   rw [if_pos hls]
   have q36 := fun σ => locks36 (f := f) (σ := σ) hJ1 hl1
   have hlv : locksV J = .tup [.ss (lv (lexS (locksTo J (2 ^ J.length)))) (lexS (locksTo J (2 ^ J.length))).length ((locksTo J (2 ^ J.length)).length == 0), .i .i64 0] := by
    unfold locksV
    rw [if_neg (by simp [hck]), lexS_len]
   rw [hlv] at q36
   have hall : ∀ u ∈ lexS (locksTo J (2 ^ J.length)), u < 2 ^ 12 ∧ meetB (bl u 12) (bl s 16) = true := fun u hu => by
    obtain ⟨h1, h2⟩ := List.mem_filter.1 ((lexS_perm (l := locksTo J (2 ^ J.length))).mem_iff.1 hu)
    have h3 := List.mem_range.1 h1
    refine ⟨by omega, (meet_bl (by omega) (by omega)).2 ?_⟩
    rw [Nat.and_comm]
    exact lock_meets hN (by omega) h3 (minLock_iff.1 h2).1 hls
   have hll : (lexS (locksTo J (2 ^ J.length))).length ≤ 60000 := by
    rw [lexS_len]
    have := locksTo_len (J := J) (i := 2 ^ J.length)
    omega
   generalize (locksTo J (2 ^ J.length)).length = nl at *
   generalize lexS (locksTo J (2 ^ J.length)) = L at *
   refine ab_seq_k fun K7 h7 => ?_
   simp
   refine callK_of (q21 _ _) ?_
   simp
   refine h7 _ _ _ ?_
   clear h7 K7
   refine ab_seq_k fun K8 h8 => ?_
   simp
   refine callK_of (q29 _) ?_
   simp
   refine h8 _ _ _ ?_
   clear h8 K8
   refine ab_seq_k fun K9 h9 => ?_
   refine ab_seq_k fun K10 h10 => ?_
   simp
   refine callK_of (q26f _ _) ?_
   simp
   refine callK_of (q27f _ _) ?_
   simp
   refine callK_of (q39 _ _) ?_
   simp
   refine h10 _ _ _ ?_
   clear h10 K10
   refine ab_cond_of rfl (fun h => by simp at h) (fun _ => ?_)
   simp
   refine h9 _ _ _ ?_
   clear h9 K9
   refine ab_seq_k fun K11 h11 => ?_
   refine ab_seq_k fun K12 h12 => ?_
   simp
   refine h12 _ _ _ ?_
   clear h12 K12
   refine ab_cond_of rfl (fun h => by simp at h) (fun _ => ?_)
   simp
   refine h11 _ _ _ ?_
   clear h11 K11
   refine ab_seq_k fun K13 h13 => ?_
   refine ab_seq_k fun K27 h27 => ?_
   have hK13 : ∀ env, get env 3 = .p 0 0 0 → get env 7 = sl (bl s 16) ((bl s 16).length == 0) → get env 118 = .b false → K27 (some 0) env [.row 0 [slJ J f]] := by
    intro env w3 w7 w118
    refine h27 _ _ _ ?_
    clear h27 K27
    refine ab_cond_of w118 (fun h => by cases h) (fun _ => ?_)
    simp [w3, w7]
    refine h13 _ _ _ ?_
    clear h13 K13
    refine ab_seq_k fun K14 h14 => ?_
    simp [w3, w7]
    refine callK_of (q36 _) ?_
    simp [w3, w7]
    refine h14 _ _ _ ?_
    clear h14 K14
    refine ab_seq_k fun K15 h15 => ?_
    refine ab_seq_k fun K16 h16 => ?_
    simp [w3, w7]
    refine h16 _ _ _ ?_
    clear h16 K16
    refine ab_cond_of rfl (fun h => by cases h) (fun _ => ?_)
    simp [w3, w7]
    refine h15 _ _ _ ?_
    clear h15 K15
    refine ab_seq_k fun K17 h17 => ?_
    refine ab_seq_k fun K18 h18 => ?_
    simp [w3, w7]
    refine h18 _ _ _ ?_
    clear h18 K18
    refine ab_block_k fun K19 h19 => ?_
    refine ab_loop_k (fun m env σ => ∃ i : Nat, i + m = L.length ∧ env = [(7, sl (bl s 16) ((bl s 16).length == 0)), (15, .ss (lv L) L.length (nl == 0)), (17, .i .i64 i)] ∧ σ = [.row 0 [slJ J f]]) L.length ⟨0, by omega, by simp [w3, w7], rfl⟩ ?_
    rintro m env2 σ ⟨i, hi, rfl, rfl⟩ K20 h20
    rw [ic8_0]
    refine ab_seq_k fun K21 h21 => ?_
    refine ab_seq_k fun K22 h22 => ?_
    simp
    refine h22 _ _ _ ?_
    clear h22 K22
    refine ab_cond_of rfl (fun hc1 => ?_) (fun hc1 => ?_)
    ·have hil : i < L.length := by simp at hc1; omega
     have hx : L[i]? = some L[i] := List.getElem?_eq_getElem hil
     obtain ⟨hu1, hu2⟩ := hall _ (List.getElem_mem hil)
     generalize L[i] = u at *
     have hlx := lv_get hx
     have hlv : listV u = sl (bl u 12) ((bl u 12).length == 0) := rfl
     rw [hlv] at hlx
     obtain ⟨g1, g2⟩ := List.getElem?_eq_some_iff.1 hlx
     have hbu := bl_len (s := u) (k := 12)
     have q49u := fun fa fb σ => meet49 (A := bl u 12) (B := bl s 16) (fa := fa) (fb := fb) (σ := σ) (by omega) (by omega)
     rw [hu2] at q49u
     simp
     refine h21 _ _ _ ?_
     clear h21 K21
     refine ab_seq_k fun K23 h23 => ?_
     refine ab_block_k fun K24 h24 => ?_
     refine ab_seq_k fun K25 h25 => ?_
     simp [hil, hlx, g1, g2]
     refine callK_of (q49u _ _ _) ?_
     simp
     refine h25 _ _ _ ?_
     refine ab_cond_of rfl (fun h => by cases h) (fun _ => ?_)
     simp
     refine h24 _ _ _ (h23 _ _ _ ?_)
     simp [wrap64 (x := (i : Int) + 1) (by omega) (by omega)]
     exact h20 _ _ _ (again (m - 1) (by omega) ⟨i + 1, by omega, by simp, rfl⟩)
    ·simp
     refine h19 _ _ _ (h17 _ _ _ ?_)
     refine ab_seq_k fun K26 h26 => ?_
     simp
     refine callK_of (wk _) ?_
     simp
     refine h26 _ _ _ ?_
     simp
     exact fin_of 1 (by simp [rs8])
   clear h13 h27
   have hlf' : ¬ ((bl s 16).length : Int) < (bl (few0 J) 12).length := by omega
   cases hlt : lockB J t with
   | true =>
    rw [hmt hlt] at q49
    simp [hlf', hlt]
    refine callK_of (q49 _ _ _) ?_
    simp
    exact hK13 _ rfl rfl rfl
   | false =>
    simp [hlf', hlt]
    exact hK13 _ rfl rfl rfl
  ·-- the logs that stay are a lock
   rw [if_neg hls] at q21
   rw [if_neg hls]
   have hlN := left_N (J := J) (s := s)
   have hbl := bl_len (s := left J s) (k := 12)
   have hlock := left_lock hN hcp hls
   have r38 := fun fk σ => check38 (f := f) (fk := fk) (k := bl (left J s) 12) (σ := σ) hJ1 hl1 (by omega)
   have r39 := fun fk σ => check39 (f := f) (fk := fk) (k := bl (left J s) 12) (σ := σ) hJ1 hl1 (by omega)
   rw [lockE_bl hck hN hlN hlock] at r38 r39
   have q49 := fun fa fb σ => meet49 (A := bl (left J s) 12) (B := bl s 16) (fa := fa) (fb := fb) (σ := σ) (by omega) (by omega)
   rw [meet_bl_no (by omega) (by omega) left_key] at q49
   generalize bl (left J s) 12 = F at *
   refine ab_seq_k fun K7 h7 => ?_
   simp
   refine callK_of (q21 _ _) ?_
   simp
   refine h7 _ _ _ ?_
   clear h7 K7
   refine ab_seq_k fun K8 h8 => ?_
   simp
   refine callK_of (q29 _) ?_
   simp
   refine h8 _ _ _ ?_
   clear h8 K8
   refine ab_seq_k fun K9 h9 => ?_
   refine ab_seq_k fun K10 h10 => ?_
   simp
   refine callK_of (q26f _ _) ?_
   simp
   refine callK_of (q27f _ _) ?_
   simp
   refine callK_of (q39 _ _) ?_
   simp
   refine h10 _ _ _ ?_
   clear h10 K10
   refine ab_cond_of rfl (fun h => by simp at h) (fun _ => ?_)
   simp
   refine h9 _ _ _ ?_
   clear h9 K9
   refine ab_seq_k fun K11 h11 => ?_
   refine ab_seq_k fun K12 h12 => ?_
   simp
   refine h12 _ _ _ ?_
   clear h12 K12
   refine ab_cond_of rfl (fun _ => ?_) (fun h => by simp at h)
   refine ab_seq_k fun K13 h13 => ?_
   simp
   refine callK_of (r38 _ _) ?_
   simp
   refine callK_of (r39 _ _) ?_
   simp
   refine callK_of (q49 _ _ _) ?_
   simp
   refine callK_of (wk _) ?_
   simp
   refine h13 _ _ _ ?_
   simp
   exact fin_of 1 (by simp [rs8])
end Go.Ab
end
