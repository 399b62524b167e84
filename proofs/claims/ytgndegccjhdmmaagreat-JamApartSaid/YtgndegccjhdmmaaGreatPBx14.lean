import Derived.Test.YtgndegccjhdmmaaGreatPBx13
/- Part 14 of what the theorem in TD rests on: an abstract layer over the calculus, contracts of the functions of the program, and plain facts. -/
set_option linter.unusedVariables false
set_option linter.unusedSimpArgs false
set_option linter.constructorNameAsVariable false
set_option maxHeartbeats 4000000
set_option maxRecDepth 100000
section
namespace Go.Ab
open Go Go.Proofs
theorem sub_le {t s : Nat} (h : less t s = 0) : t ≤ s := by
 have : t &&& s = t := Nat.eq_of_testBit_eq fun j => by
  rw [Nat.testBit_and]
  cases hj : t.testBit j with
  | false => rfl
  | true => rw [less_zero.1 h j hj]; rfl
 rw [← this]
 exact Nat.and_le_right
theorem sub_trans {r t s : Nat} (h1 : less r t = 0) (h2 : less t s = 0) : less r s = 0 := less_zero.2 fun j hj => less_zero.1 h2 j (less_zero.1 h1 j hj)
def minLock (J : List Lg) (s : Nat) : Bool := lockB J s && !(List.range s).any fun t => lockB J t && decide (less t s = 0)
def locksTo (J : List Lg) (i : Nat) : List Nat := (List.range i).filter (minLock J)
theorem locksTo_succ {J : List Lg} {i : Nat} : locksTo J (i + 1) = if minLock J i then locksTo J i ++ [i] else locksTo J i := by
 unfold locksTo
 rw [List.range_succ, List.filter_append]
 cases h : minLock J i <;> simp [h]
theorem locksTo_len {J : List Lg} {i : Nat} : (locksTo J i).length ≤ i := by
 have := List.length_filter_le (minLock J) (List.range i)
 rw [List.length_range] at this
 exact this
theorem minLock_iff {J : List Lg} {s : Nat} : minLock J s = true ↔ lockB J s = true ∧ ∀ t, lockB J t = true → less t s = 0 → t = s := by
 unfold minLock
 rw [Bool.and_eq_true, Bool.not_eq_true', List.any_eq_false]
 refine and_congr_right fun _ => ?_
 constructor
 ·intro h t h1 h2
  have hle := sub_le h2
  by_cases he : t = s
  ·exact he
  ·have := h t (List.mem_range.2 (by omega))
   rw [h1] at this
   simp [h2] at this
 ·intro h t ht
  rw [List.mem_range] at ht
  intro h3
  rw [Bool.and_eq_true, decide_eq_true_eq] at h3
  have := h t h3.1 h3.2
  omega
theorem min_under {J : List Lg} {t : Nat} (h : lockB J t = true) : ∃ u, minLock J u = true ∧ less u t = 0 := by
 obtain ⟨u, ⟨h1, h2⟩, h3⟩ := least_ex (p := fun u => lockB J u = true ∧ less u t = 0) (m := id) t ⟨t, ⟨h, less_zero.2 fun _ hj => hj⟩, Nat.le_refl _⟩
 refine ⟨u, minLock_iff.2 ⟨h1, fun r hr hru => ?_⟩, h2⟩
 have h4 := sub_le hru
 have h5 := h3 r ⟨hr, sub_trans hru h2⟩
 simp at h5
 omega
theorem any_min {J : List Lg} {i : Nat} (hl : lockB J i = true) : (locksTo J i).any (fun x => decide (less x i = 0)) = !minLock J i := by
 rw [Bool.eq_iff_iff, List.any_eq_true, Bool.not_eq_true']
 constructor
 ·rintro ⟨x, hx, h⟩
  rw [decide_eq_true_eq] at h
  obtain ⟨hx1, hx2⟩ := List.mem_filter.1 hx
  rw [List.mem_range] at hx1
  cases hm : minLock J i with
  | false => rfl
  | true =>
   have := (minLock_iff.1 hm).2 x (minLock_iff.1 hx2).1 h
   omega
 ·intro hm
  unfold minLock at hm
  rw [hl, Bool.true_and, Bool.not_eq_false', List.any_eq_true] at hm
  obtain ⟨t, ht, h⟩ := hm
  rw [List.mem_range] at ht
  rw [Bool.and_eq_true, decide_eq_true_eq] at h
  obtain ⟨u, h1, h2⟩ := min_under h.1
  have := sub_le h2
  exact ⟨u, List.mem_filter.2 ⟨List.mem_range.2 (by omega), h1⟩, decide_eq_true (sub_trans h2 h.2)⟩
theorem locks_anti {J : List Lg} {i x y : Nat} (hx : x ∈ locksTo J i) (hy : y ∈ locksTo J i) (h : less y x = 0) : y = x :=
 (minLock_iff.1 (List.mem_filter.1 hx).2).2 y (minLock_iff.1 (List.mem_filter.1 hy).2).1 h
theorem inside112 {a b : Nat} {σ : List O} (ha : a < 65536) (hb : b < 65536) : FSpec Tryz.prog 112 [u16V a, u16V b] σ (.b (decide (less a b = 0))) σ := by
 refine FSpec.frame (σ := σ) ?_ rfl rfl
 refine fn112.spec0 mixed noIt_ok ?_
 rw [ic112]
 have e4 := andNot_nat (a := a) (b := b) ha hb
 refine ab_seq_k fun K1 h1 => ?_
 simp
 refine h1 _ _ _ ?_
 clear h1 K1
 refine ab_seq_k fun K2 h2 => ?_
 simp [u16V]
 rw [e4]
 refine h2 _ _ _ ?_
 simp
 refine fin_of 1 ?_
 simp [rs112]
theorem part111 {c a b : Nat} {τ : List O} (ha : a < 65536) (hb : b < 65536) (h1 : τ[c]? = some (.row 0 [u16V b])) : FSpec Tryz.prog 111 [u16V a, .p c 0 0] τ (.b (decide (less a b = 0))) τ := by
 refine fn111.spec mixed noIt_ok ?_
 rw [ic111]
 obtain ⟨g1, g1'⟩ := List.getElem?_eq_some_iff.1 h1
 refine ab_seq_k fun K1 h1 => ?_
 simp
 refine h1 _ _ _ ?_
 clear h1 K1
 refine ab_seq_k fun K2 h2' => ?_
 simp [h1, g1']
 refine callK_of (inside112 ha hb) ?_
 simp
 refine h2' _ _ _ ?_
 simp
 refine fin_all ?_
 simp [rs111]
theorem tight113 {L : List Nat} {v : V} {σ : List O} (hv : SlP σ v (us L)) (hl : L.length ≤ 60000) (hlt : ∀ s ∈ L, s < 65536) (hanti : ∀ (i k x y : Nat), L[i]? = some x → L[k]? = some y → less y x = 0 → k = i) :
  FSpecQ Tryz.prog 113 [v, .f (.func 112) [] []] σ (fun v' σ' => Gr σ.length 1 σ' v' L.length (us L)) := by
 refine fn113.specQ mixed noIt_ok ?_
 rw [ic113]
 refine ab_seq_k fun K1 h1 => ?_
 simp
 refine h1 _ _ _ ?_
 clear h1 K1
 refine ab_seq_k fun K2 h2 => ?_
 simp
 refine h2 _ _ _ ?_
 clear h2 K2
 refine ab_seq_k fun K3 h3 => ?_
 simp
 refine h3 _ _ _ ?_
 clear h3 K3
 refine ab_seq_k fun K4 h4 => ?_
 refine ab_seq_k fun K5 h5 => ?_
 simp
 refine hv.len ?_
 simp
 refine h5 _ _ _ ?_
 clear h5 K5
 refine ab_block_k fun K6 h6 => ?_
 refine ab_loop_k (fun m env σ' => ∃ (i : Nat) (w : V), i + m = L.length ∧ env = [(0, v), (1, .f (.func 112) [] []), (5, w), (10, v), (11, .i .i64 L.length), (12, .i .i64 i)] ∧ SlP σ' v (us L) ∧ Gr σ.length 1 σ' w i (us (L.take i)) ∧ σ.length ≤ σ'.length) L.length ⟨0, .ss [] 0 true, by omega, by simp, hv, by simpa [us] using Gr.nil, Nat.le_refl _⟩ ?_
 generalize hn0 : σ.length = n0 at *
 have hvid : ∀ id, idOf v = some id → id < n0 := by
  intro id hid
  rcases hv with ⟨f, rfl⟩ | ⟨id', ver, rest, rfl, hs⟩
  ·cases hid
  ·cases hid
   rw [← hn0]
   exact (List.getElem?_eq_some_iff.1 hs).1
 clear hv
 rintro m env σ' ⟨i, w, hi, rfl, hv, hw, hlen⟩ K7 h7
 rw [ic113_1]
 refine ab_seq_k fun K8 h8 => ?_
 simp
 refine h8 _ _ _ ?_
 clear h8 K8
 refine ab_seq_k fun K9 h9 => ?_
 refine ab_cond_of rfl (fun hc => ?_) (fun hc => ?_)
 ·have hil : i < L.length := by simpa using hc
  have hx : L[i]? = some L[i] := List.getElem?_eq_getElem hil
  have hxl := hlt _ (List.getElem_mem hil)
  have htk : us (L.take (i + 1)) = us (L.take i) ++ [u16V L[i]] := by rw [List.take_add_one, hx, us_append]; rfl
  generalize L[i] = x at *
  have hu := us_get hx
  simp
  refine h9 _ _ _ ?_
  clear h9 K9
  refine ab_seq_k fun K10 h10 => ?_
  refine ab_block_k fun K11 h11 => ?_
  refine ab_seq_k fun K12 h12 => ?_
  simp
  refine hv.ixs hu fun a ha => ?_
  simp
  refine ha _ ?_
  simp
  refine h12 _ _ _ ?_
  clear h12 K12
  refine ab_seq_k fun K13 h13 => ?_
  refine ab_seq_k fun K14 h14 => ?_
  simp
  refine hv.len ?_
  simp
  refine h14 _ _ _ ?_
  clear h14 K14
  refine ab_block_k fun K15 h15 => ?_
  refine ab_loop_k (fun m2 env τ => ∃ k : Nat, k + m2 = L.length ∧ env = [(0, v), (1, .f (.func 112) [] []), (5, w), (6, .i .i64 i), (7, u16V x), (10, v), (11, .i .i64 L.length), (12, .i .i64 i), (17, v), (18, .i .i64 L.length), (19, .i .i64 k)] ∧ τ = σ') L.length ⟨0, by omega, by simp, rfl⟩ ?_
  rintro m2 env τ ⟨k, hk, rfl, rfl⟩ K16 h16
  rw [ic113_0]
  refine ab_seq_k fun K17 h17 => ?_
  simp
  refine h17 _ _ _ ?_
  clear h17 K17
  refine ab_seq_k fun K18 h18 => ?_
  refine ab_cond_of rfl (fun hc2 => ?_) (fun hc2 => ?_)
  ·have hkl : k < L.length := by simpa using hc2
   have hy : L[k]? = some L[k] := List.getElem?_eq_getElem hkl
   have hyl := hlt _ (List.getElem_mem hkl)
   have han := hanti i k x L[k] hx hy
   generalize L[k] = y at *
   have huy := us_get hy
   simp
   refine h18 _ _ _ ?_
   clear h18 K18
   refine ab_seq_k fun K19 h19 => ?_
   refine ab_block_k fun K20 h20 => ?_
   refine ab_seq_k fun K21 h21 => ?_
   simp
   refine hv.ixs huy fun a ha => ?_
   simp
   refine ha _ ?_
   simp
   refine h21 _ _ _ ?_
   clear h21 K21
   refine ab_seq_k fun K22 h22 => ?_
   have hK22 : ∀ env, get env 0 = v → get env 1 = .f (.func 112) [] [] → get env 5 = w → get env 6 = .i .i64 i → get env 7 = u16V x → get env 10 = v → get env 11 = .i .i64 L.length → get env 12 = .i .i64 i → get env 17 = v → get env 18 = .i .i64 L.length → get env 19 = .i .i64 k → get env 32 = .b false → K22 (some 0) env τ := by
    intro env w0 w1 w5 w6 w7 w10 w11 w12 w17 w18 w19 w32
    refine h22 _ _ _ ?_
    refine ab_cond_of w32 (fun h => by cases h) (fun _ => ?_)
    simp
    refine h20 _ _ _ (h19 _ _ _ ?_)
    simp [w0, w1, w5, w6, w7, w10, w11, w12, w17, w18, w19, wrap64 (x := (k : Int) + 1) (by omega) (by omega)]
    exact h16 _ _ _ (again (m2 - 1) (by omega) ⟨k + 1, by omega, by simp, rfl⟩)
   clear h22
   by_cases hki : k = i
   ·subst hki
    simp
    exact hK22 _ rfl rfl rfl rfl rfl rfl rfl rfl rfl rfl rfl rfl
   ·have hne : ¬ (k : Int) = i := by omega
    have hl0 : ¬ less y x = 0 := fun h => hki (han h)
    simp [hne, hki]
    refine callK_of (inside112 hyl hxl) ?_
    simp [hl0]
    exact hK22 _ rfl rfl rfl rfl rfl rfl rfl rfl rfl rfl rfl rfl
  ·simp
   refine h15 _ _ _ (h13 _ _ _ ?_)
   clear h13 h15 h16 h18
   simp [u16V]
   refine appG hw (by omega) (by omega) (by omega) rfl ?_
   intro w' σ3 hw' hgr
   have hv3 : SlP σ3 v (us L) := by
    rcases hv with ⟨f, e⟩ | ⟨id, ver, rest, e, hs⟩
    ·exact .inl ⟨f, e⟩
    ·refine .inr ⟨id, ver, rest, e, ?_⟩
     have hid := hvid id (by rw [e]; rfl)
     rw [hgr.keep id (List.getElem?_eq_some_iff.1 hs).1 (fun h => by have := (hw.id_ge h).1; omega)]
     exact hs
   have hlen3 : n0 ≤ σ3.length := by
    rcases hw'.cases with ⟨h1, -, -⟩ | ⟨id, ver, -, hid, -, -, hlt'⟩
    ·omega
    ·omega
   simp
   refine h11 _ _ _ (h10 _ _ _ ?_)
   simp [wrap64 (x := (i : Int) + 1) (by omega) (by omega)]
   exact h7 _ _ _ (again (m - 1) (by omega) ⟨i + 1, w', by omega, by simp, hv3, by rw [htk]; exact hw', hlen3⟩)
 ·have hil : i = L.length := by simp at hc; omega
  subst hil
  rw [List.take_length] at hw
  simp
  refine h6 _ _ _ (h4 _ _ _ ?_)
  refine ab_seq_k fun K30 h30 => ?_
  simp
  refine h30 _ _ _ ?_
  clear h30 K30
  simp
  refine fin_Q ?_
  simp [rs113]
  exact hw
end Go.Ab
end
section
namespace Go.Ab
open Go Go.Proofs
theorem locks84 {J : List Lg} {f : Bool} {σ : List O} (hJ : JOK J) : FSpecQ Tryz.prog 84 [heapV J f] σ (fun v σ' => Gr σ.length 1 σ' v (locksTo J (2 ^ J.length)).length (us (locksTo J (2 ^ J.length)))) := by
 have hN := hJ.2.1
 have hh : (cellsOf (heapV J f)) = some [heapV J f] := rfl
 have hlk := fun σ s hs => isLock89 (J := J) (f := f) (s := s) (σ := σ) hJ hs
 have hat : ∀ σ, HeapAt J f (heapV J f) σ := fun σ => .inl ⟨_, _, rfl⟩
 have hpw := pow12 hN
 have hlb : ∀ s, s < 2 ^ J.length → s < 65536 := fun s h => by omega
 refine qf84.specQ mixed itT_ok ?_
 rw [q84]
 generalize heapV J f = H at *
 refine ab_seq_k fun K1 h1 => ?_
 simp [hh]
 refine h1 _ _ _ ?_
 clear h1 K1
 refine ab_seq_k fun K2 h2 => ?_
 simp
 refine h2 _ _ _ ?_
 clear h2 K2
 refine ab_seq_k fun K3 h3 => ?_
 refine ab_seq_k fun K4 h4 => ?_
 simp
 refine callK_of (sets91 hh) ?_
 simp
 refine h4 _ _ _ ?_
 clear h4 K4
 refine ab_block_k fun K5 h5 => ?_
 generalize hL0 : σ.length = L0 at *
 generalize hW : 2 ^ J.length = W at *
 refine ⟨W, XSet, SetAt J f (L0 + 1 + 1) H, sets_it hN hW, fun i σ2 => σ2[L0]? = some (.row 0 [H]) ∧ σ2[L0 + 1 + 1]? = some (.row 0 [H]) ∧ ∃ v, σ2[L0 + 1]? = some (.row 0 [v]) ∧ Gr (L0 + 3) 1 σ2 v (locksTo J i).length (us (locksTo J i)), fun i σ2 h => ⟨h.2.1, hat _⟩, ⟨?_, ?_, .ss [] 0 true, ?_, ?_⟩, ?_, ?_⟩
 ·rw [List.getElem?_append_right (by omega), hL0, Nat.sub_self]; rfl
 ·rw [List.getElem?_append_right (by omega), hL0, show L0 + 1 + 1 - L0 = 2 by omega]; rfl
 ·rw [List.getElem?_append_right (by omega), hL0, show L0 + 1 - L0 = 1 by omega]; rfl
 ·simpa [locksTo, us] using Gr.nil
 ·rintro i x σ2 g hi ⟨rfl, rfl⟩ ⟨q0, q2, v, q1, hv⟩
  refine ⟨rfl, ?_⟩
  generalize hKR : roundK _ _ _ = KR
  rw [List.append_nil]
  simp
  rw [q84_0]
  have hi16 := hlb i hi
  obtain ⟨hq2, -⟩ := List.getElem?_eq_some_iff.1 q2
  have hc0 : (σ2 ++ [O.row 0 [V.i .u16 i]])[σ2.length]? = some (O.row 0 [V.i .u16 i]) := by simp
  replace q0 := app_get (g := [O.row 0 [V.i .u16 i]]) q0
  replace q1 := app_get (g := [O.row 0 [V.i .u16 i]]) q1
  replace q2 := app_get (g := [O.row 0 [V.i .u16 i]]) q2
  replace hv := hv.app (g := [O.row 0 [V.i .u16 i]])
  have hcl : L0 + 3 ≤ σ2.length := by omega
  have hdone : ∀ σ3 v, σ3[L0]? = some (.row 0 [H]) → σ3[L0 + 1 + 1]? = some (.row 0 [H]) → σ3[L0 + 1]? = some (.row 0 [v]) → Gr (L0 + 3) 1 σ3 v (locksTo J (i + 1)).length (us (locksTo J (i + 1))) → ∀ env, KR (some 0) env σ3 := by
   intro σ3 v a1 a2 a3 a4 env
   rw [← hKR]
   exact ⟨rfl, .inl ⟨a1, a2, v, a3, a4⟩⟩
  clear hKR hq2
  have hU : σ2.length < (σ2 ++ [O.row 0 [V.i .u16 i]]).length := by simp
  generalize σ2 ++ [O.row 0 [V.i .u16 i]] = U at *
  generalize σ2.length = c at *
  obtain ⟨hq0, q0'⟩ := List.getElem?_eq_some_iff.1 q0
  obtain ⟨hq1, q1'⟩ := List.getElem?_eq_some_iff.1 q1
  obtain ⟨hqc, qc'⟩ := List.getElem?_eq_some_iff.1 hc0
  have hks := locksTo_succ (J := J) (i := i)
  have hkl := locksTo_len (J := J) (i := i)
  have hlt : ∀ x ∈ locksTo J i, x < 65536 := fun x hx => by
   have := List.mem_range.1 (List.mem_filter.1 hx).1
   omega
  have h110 := contains110 (first := []) (fp := 111) (cap := [V.p c 0 0]) (p := fun x => decide (less x i = 0)) hv.slp (by omega) (fun x hx => part111 (hlt x hx) hi16 hc0)
  refine ab_block_k fun K16 h16 => ?_
  refine ab_seq_k fun K18 h18 => ?_
  have hK18 : ∀ env cc, get env 3 = .p (L0 + 1) 0 0 → get env 4 = .p c 0 0 → get env 20 = .b cc → cc = minLock J i → K18 (some 0) env U := by
   intro env cc w3 w4 w20 hcv
   refine h18 _ _ _ ?_
   clear h18
   cases cc with
   | false =>
    rw [← hcv, if_neg (by simp)] at hks
    refine ab_cond_of w20 (fun h => by cases h) (fun _ => ?_)
    simp
    refine h16 _ _ _ ?_
    exact hdone U v q0 q2 q1 (by rw [hks]; exact hv) _
   | true =>
    rw [← hcv, if_pos rfl] at hks
    refine ab_cond_of w20 (fun _ => ?_) (fun h => by cases h)
    simp [w3, w4, q1, q1', hc0, qc']
    refine appG hv (by omega) (by omega) (by omega) rfl ?_
    intro v' σ' hv' hgr
    have hbid : ∀ j, j < L0 + 3 → idOf v ≠ some j := fun j hj e => by have := (hv.id_ge e).1; omega
    have r0 := hgr.get (hbid L0 (by omega)) q0
    have r1 := hgr.get (hbid (L0 + 1) (by omega)) q1
    have r2 := hgr.get (hbid (L0 + 1 + 1) (by omega)) q2
    obtain ⟨hr1, r1'⟩ := List.getElem?_eq_some_iff.1 r1
    simp [w3, w4, r1, r1', hv'.one]
    refine h16 _ _ _ ?_
    refine hdone _ v' ?_ ?_ (List.getElem?_set_self hr1) ?_ _
    ·rw [List.getElem?_set_ne (by omega)]; exact r0
    ·rw [List.getElem?_set_ne (by omega)]; exact r2
    ·have h1 := hv'.setlt (i := L0 + 1) (o := O.row 0 [v']) (by omega)
     rw [hks]
     simpa [us] using h1
  clear h18 hdone
  by_cases hi0 : i = 0
  ·have hm : minLock J i = false := by simp [minLock, lockB, hi0]
   simp [hc0, qc', hi0]
   exact hK18 _ _ rfl rfl rfl hm.symm
  ·cases hl : lockB J i with
   | false =>
    have hm : minLock J i = false := by simp [minLock, hl]
    simp [hc0, qc', hi0, q0, q0']
    refine callK_of (hlk _ _ hi) ?_
    simp [hl]
    exact hK18 _ _ rfl rfl rfl hm.symm
   | true =>
    rw [any_min hl] at h110
    simp [hc0, qc', hi0, q0, q0']
    refine callK_of (hlk _ _ hi) ?_
    simp [hl, q1, q1']
    refine callK_of h110 ?_
    simp
    exact hK18 _ _ rfl rfl rfl rfl
 ·rintro σ2 ⟨q0, q2, v, q1, hv⟩
  refine h5 _ _ _ (h3 _ _ _ ?_)
  obtain ⟨hq1, q1'⟩ := List.getElem?_eq_some_iff.1 q1
  refine ab_seq_k fun K30 h30 => ?_
  simp [q1, q1']
  refine callR_of (tight113 hv.slp ?_ ?_ ?_) ?_
  ·have := locksTo_len (J := J) (i := W); omega
  ·intro s hs
   have := List.mem_range.1 (List.mem_filter.1 hs).1
   omega
  ·intro i k x y hx hy h
   have he := locks_anti (List.mem_of_getElem? hx) (List.mem_of_getElem? hy) h
   subst he
   have hnd : (locksTo J W).Nodup := List.Nodup.sublist List.filter_sublist List.nodup_range
   exact (List.getElem?_inj (List.getElem?_eq_some_iff.1 hy).1 hnd).1 (hy.trans hx.symm)
  ·intro v' σ' hv'
   simp
   refine h30 _ _ _ ?_
   simp
   refine fin_Q ?_
   simp [rs84]
   exact hv'.mono (by omega)
theorem locks84F {J : List Lg} {f : Bool} {σ : List O} (hJ : JOK J) : FSpec Tryz.prog 84 [heapV J f] σ (.ss (us (locksTo J (2 ^ J.length))) (locksTo J (2 ^ J.length)).length ((locksTo J (2 ^ J.length)).length == 0)) σ := by
 refine FSpec.frame (σ := σ) ?_ (by simp) (by simp)
 exact (locks84 hJ).freeze fun v σ' h => ⟨2, frz_G h (by simp)⟩
end Go.Ab
end
section
namespace Go.Ab
open Go Go.Proofs
def apartS : List Nat → Nat → List Nat
 | [], _ => []
 | x :: r, m => if x &&& m ≠ 0 then apartS r m else if (apartS r (m ||| x)).length + 1 > (apartS r m).length then x :: apartS r (m ||| x) else apartS r m
theorem apartS_len : ∀ {L : List Nat} {m : Nat}, (apartS L m).length ≤ L.length
 | [], _ => Nat.le_refl _
 | x :: r, m => by
  have h1 := apartS_len (L := r) (m := m)
  have h2 := apartS_len (L := r) (m := m ||| x)
  simp only [apartS]
  split
  ·simp; omega
  ·split <;> simp <;> omega
theorem apart90 : ∀ {L : List Nat} {m : Nat} {f : Bool} {σ : List O}, (∀ x ∈ L, x < 65536) → L.length ≤ 60000 → m < 65536 → FSpec Tryz.prog 90 [.ss (us L) L.length f, .i .u16 m] σ (.ss (us (apartS L m)) (apartS L m).length (decide ((apartS L m).length ≤ 1))) σ
 | [], m, f, σ, hL, hl, hm => by
  refine FSpec.frame (σ := σ) ?_ (by simp) (by simp)
  refine fn90.spec0 mixed noIt_ok ?_
  rw [ic90]
  refine ab_seq_k fun K1 h1 => ?_
  simp
  refine h1 _ _ _ ?_
  clear h1 K1
  refine ab_seq_k fun K2 h2 => ?_
  refine ab_seq_k fun K3 h3 => ?_
  simp
  refine h3 _ _ _ ?_
  clear h3 K3
  refine ab_cond_of rfl (fun _ => ?_) (fun h => by cases h)
  refine ab_seq_k fun K4 h4 => ?_
  simp
  refine h4 _ _ _ ?_
  clear h4 K4
  simp
  refine fin_of 2 ?_
  simp [rs90, apartS, us]
 | x :: r, m, f, σ, hL, hl, hm => by
  have hx := hL x (List.mem_cons_self ..)
  have hr := fun y hy => hL y (List.mem_cons_of_mem x hy)
  have hrl : r.length ≤ 60000 := by simp at hl; omega
  have hor : m ||| x < 65536 := Nat.or_lt_two_pow (n := 16) hm hx
  have i1 := fun f σ => apart90 (L := r) (m := m) (f := f) (σ := σ) hr hrl hm
  have i2 := fun f σ => apart90 (L := r) (m := m ||| x) (f := f) (σ := σ) hr hrl hor
  have l1 := apartS_len (L := r) (m := m)
  have l2 := apartS_len (L := r) (m := m ||| x)
  have ea := and_nat hx hm
  have eo := or_nat hm hx
  have huc : us (x :: r) = .i .u16 x :: us r := rfl
  rw [huc]
  have htk : (us r).take r.length = us r := List.take_of_length_le (by simp)
  have hap : apartS (x :: r) m = if x &&& m ≠ 0 then apartS r m else if (apartS r (m ||| x)).length + 1 > (apartS r m).length then x :: apartS r (m ||| x) else apartS r m := rfl
  refine FSpec.frame (σ := σ) ?_ (by simp) (by simp)
  refine fn90.spec0 mixed noIt_ok ?_
  rw [ic90]
  generalize apartS r m = A at *
  generalize apartS r (m ||| x) = B at *
  refine ab_seq_k fun K1 h1 => ?_
  simp
  refine h1 _ _ _ ?_
  clear h1 K1
  refine ab_seq_k fun K2 h2 => ?_
  refine ab_seq_k fun K3 h3 => ?_
  simp
  refine h3 _ _ _ ?_
  clear h3 K3
  refine ab_cond_of rfl (fun h => by have := of_decide_eq_true h; omega) (fun _ => ?_)
  simp
  refine h2 _ _ _ ?_
  clear h2 K2
  refine ab_seq_k fun K4 h4 => ?_
  simp [htk]
  refine ⟨by omega, callK_of (i1 _ _) ?_⟩
  simp
  refine h4 _ _ _ ?_
  clear h4 K4
  have hxr : (.i .u16 x :: us r : List V)[0]? = some (.i .u16 x) := rfl
  refine ab_seq_k fun K5 h5 => ?_
  refine ab_seq_k fun K6 h6 => ?_
  simp
  rw [ea]
  refine h6 _ _ _ ?_
  clear h6 K6
  by_cases hm0 : x &&& m = 0
  ·rw [if_neg (fun h => h hm0)] at hap
   refine ab_cond_of rfl (fun h => by simp [hm0] at h) (fun _ => ?_)
   simp
   refine h5 _ _ _ ?_
   clear h5 K5
   refine ab_seq_k fun K7 h7 => ?_
   refine ab_seq_k fun K8 h8 => ?_
   simp [abDs_consU, drU, recheck_cons, recheck_nil, rcK, IS.dst, htk]
   refine ⟨by omega, ?_⟩
   rw [eo]
   refine callK_of (i2 _ _) ?_
   simp [abDs_consU, drU, recheck_cons, recheck_nil, rcK, IS.dst]
   refine h8 _ _ _ ?_
   clear h8 K8
   refine ab_seq_k fun K9 h9 => ?_
   simp [wrap64 (x := (B.length : Int) + 1) (by omega) (by omega)]
   refine h9 _ _ _ ?_
   clear h9 K9
   by_cases hlen : A.length < B.length + 1
   ·rw [if_pos hlen] at hap
    refine ab_cond_of rfl (fun _ => ?_) (fun h => by have := of_decide_eq_false h; omega)
    refine ab_seq_k fun K10 h10 => ?_
    simp
    refine ⟨by omega, ?_⟩
    by_cases hB : B = []
    ·subst hB
     rw [if_pos rfl]
     refine h10 _ _ _ ?_
     simp
     refine fin_of 2 ?_
     rw [hap]
     simp [rs90, us, u16V]
    ·have hBl : 0 < B.length := List.length_pos_iff.2 hB
     have hg : Gr 0 1 [O.row 0 (V.i .u16 x :: us B)] (V.s 0 0 0 (1 + B.length) 1) (1 + B.length) (V.i .u16 x :: us B) := ⟨by simp [us]; omega, .inr ⟨by omega, 0, 0, Nat.le_refl _, rfl, rfl⟩⟩
     rw [if_neg hB]
     refine h10 _ _ _ ?_
     simp
     refine fin_of 2 ?_
     rw [hap]
     simp [-frz, rs90]
     rw [frz_G hg (by simp)]
     have hz : (1 + B.length == 0) = false := beq_eq_false_iff_ne.2 (by omega)
     simp [us, u16V, hB, hz, Nat.add_comm]
   ·rw [if_neg hlen] at hap
    refine ab_cond_of rfl (fun h => by have := of_decide_eq_true h; omega) (fun _ => ?_)
    simp
    refine h7 _ _ _ ?_
    refine ab_seq_k fun K20 h20 => ?_
    simp
    refine h20 _ _ _ ?_
    clear h20 K20
    simp
    refine fin_of 2 ?_
    rw [hap]
    simp [rs90]
  ·rw [if_pos hm0] at hap
   refine ab_cond_of rfl (fun _ => ?_) (fun h => by simp [hm0] at h)
   refine ab_seq_k fun K21 h21 => ?_
   simp
   refine h21 _ _ _ ?_
   clear h21 K21
   simp
   refine fin_of 2 ?_
   rw [hap]
   simp [rs90]
end Go.Ab
end
section
namespace Go.Ab
open Go Go.Proofs
theorem apartS_sub : ∀ {L : List Nat} {m s : Nat}, s ∈ apartS L m → s ∈ L
 | [], _, _, h => h
 | x :: r, m, s, h => by
  simp only [apartS] at h
  split at h
  ·exact List.mem_cons_of_mem x (apartS_sub h)
  ·split at h
   ·rcases List.mem_cons.1 h with rfl | h
    ·exact List.mem_cons_self ..
    ·exact List.mem_cons_of_mem x (apartS_sub h)
   ·exact List.mem_cons_of_mem x (apartS_sub h)
def apartV (J : List Lg) : V := if checkJ J ≠ 0 then .tup [.ss [] 0 true, .i .i64 (checkJ J)] else .tup [.ss (lv (lexS (apartS (locksTo J (2 ^ J.length)) 0))) (apartS (locksTo J (2 ^ J.length)) 0).length ((apartS (locksTo J (2 ^ J.length)) 0).length == 0), .i .i64 0]
theorem apartV_pure {J} : (apartV J).pure = true := by
 unfold apartV
 split
 ·rfl
 ·simp
theorem apart43 {J : List Lg} {f : Bool} {σ : List O} (hJ : J.length ≤ 1000000) (hl : ∀ x ∈ J, x.2.1.length ≤ 1000000) : FSpec Tryz.prog 43 [jamV J f] σ (apartV J) σ := by
 refine FSpec.frame (σ := σ) ?_ (by simp) apartV_pure
 have h62 := fun σ => open62 (f := f) (l := []) (fl := true) (σ := σ) hJ hl (by simp)
 refine fn43.spec0 mixed noIt_ok ?_
 rw [ic43]
 refine ab_seq_k fun K1 h1 => ?_
 simp
 refine h1 _ _ _ ?_
 clear h1 K1
 refine ab_seq_k fun K2 h2 => ?_
 simp
 refine callK_of (h62 _) ?_
 rcases open_nil (f := f) hl with ⟨hc, ho⟩ | ⟨hc, hJO, ho⟩
 ·have hv : apartV J = .tup [.ss [] 0 true, .i .i64 (checkJ J)] := by unfold apartV; rw [if_pos hc]
  rw [ho]
  simp
  refine h2 _ _ _ ?_
  clear h2 K2
  refine ab_seq_k fun K3 h3 => ?_
  refine ab_seq_k fun K5 h5 => ?_
  simp
  refine h5 _ _ _ ?_
  clear h5 K5
  refine ab_cond_of rfl (fun _ => ?_) (fun h => by simp at h; omega)
  refine ab_seq_k fun K6 h6 => ?_
  simp
  refine h6 _ _ _ ?_
  clear h6 K6
  simp
  refine fin_of 3 ?_
  simp [rs43, hv]
 ·have hN := hJO.2.1
  have hpw := pow12 hN
  have hk := fun σ => locks84F (J := J) (f := f) (σ := σ) hJO
  have hkl := locksTo_len (J := J) (i := 2 ^ J.length)
  have hmem : ∀ s ∈ locksTo J (2 ^ J.length), s < 2 ^ 12 := fun s hs => by
   have := (List.mem_filter.1 hs).1
   rw [List.mem_range] at this
   omega
  have hlt : ∀ s ∈ locksTo J (2 ^ J.length), s < 65536 := fun s hs => by
   have := List.mem_range.1 (List.mem_filter.1 hs).1
   omega
  have hsl := apartS_len (L := locksTo J (2 ^ J.length)) (m := 0)
  have hmem2 : ∀ s ∈ apartS (locksTo J (2 ^ J.length)) 0, s < 2 ^ 12 := fun s hs => hmem s (apartS_sub hs)
  have h90 := fun f σ => apart90 (L := locksTo J (2 ^ J.length)) (m := 0) (f := f) (σ := σ) hlt (by omega) (by omega)
  have hv : apartV J = .tup [.ss (lv (lexS (apartS (locksTo J (2 ^ J.length)) 0))) (apartS (locksTo J (2 ^ J.length)) 0).length ((apartS (locksTo J (2 ^ J.length)) 0).length == 0), .i .i64 0] := by unfold apartV; rw [if_neg (by simp [hc])]
  have hls := fun f σ => lists76 (L := apartS (locksTo J (2 ^ J.length)) 0) (f := f) (σ := σ) hmem2 (by omega)
  generalize apartS (locksTo J (2 ^ J.length)) 0 = R at *
  generalize locksTo J (2 ^ J.length) = L at *
  rw [ho]
  simp
  refine h2 _ _ _ ?_
  clear h2 K2
  refine ab_seq_k fun K3 h3 => ?_
  refine ab_seq_k fun K5 h5 => ?_
  simp
  refine h5 _ _ _ ?_
  clear h5 K5
  refine ab_cond_of rfl (fun h => by simp at h) (fun _ => ?_)
  simp
  refine h3 _ _ _ ?_
  clear h3 K3
  refine ab_seq_k fun K7 h7 => ?_
  simp
  refine callK_of (hk _) ?_
  simp
  refine callK_of (h90 _ _) ?_
  simp
  refine callK_of (hls _ _) ?_
  simp
  refine h7 _ _ _ ?_
  simp
  refine fin_of 3 ?_
  simp [rs43, hv]
end Go.Ab
end
section
namespace Go.Ab
open Go Go.Proofs
def mostS : List Nat → Nat → Nat
 | [], _ => 0
 | x :: r, m => if x &&& m ≠ 0 then mostS r m else max (mostS r m) (1 + mostS r (m ||| x))
theorem apartS_most : ∀ {L : List Nat} {m : Nat}, (apartS L m).length = mostS L m
 | [], m => rfl
 | x :: r, m => by
  have h1 := apartS_most (L := r) (m := m)
  have h2 := apartS_most (L := r) (m := m ||| x)
  simp only [apartS, mostS]
  split
  ·exact h1
  ·split <;> (try simp) <;> omega
theorem and_or {a b c : Nat} : a &&& (b ||| c) = 0 ↔ a &&& b = 0 ∧ a &&& c = 0 := by
 constructor
 ·intro h
  constructor
  ·apply Nat.eq_of_testBit_eq
   intro j
   have := congrArg (fun z => z.testBit j) h
   simp only [Nat.testBit_and, Nat.testBit_or, Nat.zero_testBit] at this ⊢
   revert this
   cases a.testBit j <;> cases b.testBit j <;> cases c.testBit j <;> simp
  ·apply Nat.eq_of_testBit_eq
   intro j
   have := congrArg (fun z => z.testBit j) h
   simp only [Nat.testBit_and, Nat.testBit_or, Nat.zero_testBit] at this ⊢
   revert this
   cases a.testBit j <;> cases b.testBit j <;> cases c.testBit j <;> simp
 ·rintro ⟨h1, h2⟩
  apply Nat.eq_of_testBit_eq
  intro j
  have h3 := congrArg (fun z => z.testBit j) h1
  have h4 := congrArg (fun z => z.testBit j) h2
  simp only [Nat.testBit_and, Nat.testBit_or, Nat.zero_testBit] at h3 h4 ⊢
  revert h3 h4
  cases a.testBit j <;> cases b.testBit j <;> cases c.testBit j <;> simp
theorem bl_nn {s k : Nat} : ∀ x ∈ bl s k, 0 ≤ x := fun x hx => by
 obtain ⟨j, -, rfl, -⟩ := bl_mem.1 hx
 omega
end Go.Ab
end
section
namespace Go.Ab
open Go Go.Proofs
theorem apartS_dis : ∀ {L : List Nat} {m : Nat}, (apartS L m).Pairwise (fun a b => a &&& b = 0) ∧ ∀ s ∈ apartS L m, s &&& m = 0
 | [], _ => ⟨List.Pairwise.nil, fun s hs => nomatch hs⟩
 | x :: r, m => by
  have h1 := apartS_dis (L := r) (m := m)
  have h2 := apartS_dis (L := r) (m := m ||| x)
  simp only [apartS]
  by_cases hx : x &&& m = 0
  ·rw [if_neg (fun h => h hx)]
   split
   ·refine ⟨List.pairwise_cons.2 ⟨fun s hs => ?_, h2.1⟩, fun s hs => ?_⟩
    ·rw [Nat.and_comm]; exact (and_or.1 (h2.2 s hs)).2
    ·rcases List.mem_cons.1 hs with rfl | hs
     ·exact hx
     ·exact (and_or.1 (h2.2 s hs)).1
   ·exact h1
  ·rw [if_pos hx]
   exact h1
theorem dis_count {N : Nat} : ∀ {R : List Nat} {m : Nat}, R.Pairwise (fun a b => a &&& b = 0) → (∀ s ∈ R, s < 2 ^ N ∧ s ≠ 0 ∧ s &&& m = 0) → R.length + (bl m N).length ≤ N
 | [], m, _, _ => by have := bl_len (s := m) (k := N); simpa using this
 | x :: r, m, hp, hm => by
  obtain ⟨hx, hr⟩ := List.pairwise_cons.1 hp
  obtain ⟨h1, h2, h3⟩ := hm x (List.mem_cons_self ..)
  have ih := dis_count (N := N) (m := m ||| x) hr (fun s hs => by
   obtain ⟨q1, q2, q3⟩ := hm s (List.mem_cons_of_mem x hs)
   exact ⟨q1, q2, and_or.2 ⟨q3, by rw [Nat.and_comm]; exact hx s hs⟩⟩)
  obtain ⟨j, hj⟩ := Nat.exists_testBit_of_ne_zero h2
  have hmj : m.testBit j = false := by
   have := congrArg (fun z => z.testBit j) h3
   simp only [Nat.testBit_and, Nat.zero_testBit, hj, Bool.true_and] at this
   exact this
  have hlt := bl_lt (s := m) (t := m ||| x) (k := N) (fun i hi => by rw [Nat.testBit_or, hi]; rfl) ⟨j, bit_small h1 hj, hmj, by rw [Nat.testBit_or, hj, Bool.or_true]⟩
  simp
  omega
def bV (R : List Nat) : List (List Int × Bool) := R.map fun s => (bl s 12, (bl s 12).length == 0)
@[simp] theorem bV_len {R : List Nat} : (bV R).length = R.length := by simp [bV]
theorem lls_bV {R : List Nat} : lls (bV R) = lv R := by unfold lls bV lv; rw [List.map_map]; rfl
theorem gl_bV {R : List Nat} {i : Nat} (h : i < R.length) : gl (bV R) i = bl R[i] 12 := by
 rw [gl_get (p := (bl R[i] 12, (bl R[i] 12).length == 0))]
 unfold bV
 rw [List.getElem?_map, List.getElem?_eq_getElem h]
 rfl
theorem lockE_bl {J : List Lg} {s : Nat} (hc : checkJ J = 0) (hN : J.length ≤ 12) (hs : s < 2 ^ J.length) (hl : lockB J s = true) : lockE J (bl s 12) = 0 := by
 have h12 : s < 2 ^ 12 := Nat.lt_of_lt_of_le hs (Nat.pow_le_pow_right (by omega) hN)
 unfold lockE
 rw [if_neg (by simp [hc]), isL_bl hs, setB_bl h12, hl, if_neg (by decide), if_neg (by decide)]
theorem apE_bV {J : List Lg} {R : List Nat} (hc : checkJ J = 0) (hN : J.length ≤ 12) (hR : ∀ s ∈ R, s < 2 ^ J.length ∧ s ≠ 0 ∧ lockB J s = true) (hp : R.Pairwise (fun a b => a &&& b = 0)) : apE J (bV R) = 0 := by
 have hlen : R.length ≤ 12 := by
  have := dis_count (N := J.length) (m := 0) hp (fun s hs => ⟨(hR s hs).1, (hR s hs).2.1, Nat.and_zero s⟩)
  omega
 have he : errL J (bV R) = 0 := errL_zero.2 fun p hp => by
  obtain ⟨s, hs, rfl⟩ := List.mem_map.1 hp
  exact lockE_bl hc hN (hR s hs).1 (hR s hs).2.2
 have hb : bump (bV R) = false := bump_false.2 fun i hi k hk => by
  rw [bV_len] at hi
  have hkl : k < R.length := by omega
  rw [gl_bV hi, gl_bV hkl]
  have h12 : ∀ s ∈ R, s < 2 ^ 12 := fun s hs => Nat.lt_of_lt_of_le (hR s hs).1 (Nat.pow_le_pow_right (by omega) hN)
  cases hx : meetB (bl R[i] 12) (bl R[k] 12) with
  | false => rfl
  | true =>
   have := (meet_set bl_nn bl_nn).1 hx
   rw [setB_bl (h12 _ (List.getElem_mem hi)), setB_bl (h12 _ (List.getElem_mem hkl)), Nat.and_comm] at this
   exact absurd (List.pairwise_iff_getElem.1 hp k i hkl hi hk) this
 unfold apE
 rw [if_neg (by simp [hc]), if_neg (by rw [bV_len]; omega), if_neg (by simp [he]), if_neg (by simp [hb])]
def apL (J : List Lg) : List Nat := lexS (apartS (locksTo J (2 ^ J.length)) 0)
theorem lock_nz {J : List Lg} {s : Nat} (h : lockB J s = true) : s ≠ 0 := by
 unfold lockB at h
 rw [Bool.and_eq_true, decide_eq_true_eq] at h
 exact h.1
theorem apL_mem {J : List Lg} {s : Nat} (h : s ∈ apL J) : s < 2 ^ J.length ∧ s ≠ 0 ∧ lockB J s = true ∧ minLock J s = true := by
 have h1 := apartS_sub ((lexS_perm (l := apartS (locksTo J (2 ^ J.length)) 0)).mem_iff.1 h)
 obtain ⟨h2, h3⟩ := List.mem_filter.1 h1
 have h4 := (minLock_iff.1 h3).1
 exact ⟨List.mem_range.1 h2, lock_nz h4, h4, h3⟩
theorem apL_dis {J : List Lg} : (apL J).Pairwise (fun a b => a &&& b = 0) :=
 (List.Perm.pairwise_iff (fun {a b} h => by rw [Nat.and_comm]; exact h) (lexS_perm (l := apartS (locksTo J (2 ^ J.length)) 0))).2 apartS_dis.1
theorem apE_apL {J : List Lg} (hc : checkJ J = 0) (hN : J.length ≤ 12) : apE J (bV (apL J)) = 0 :=
 apE_bV hc hN (fun s hs => ⟨(apL_mem hs).1, (apL_mem hs).2.1, (apL_mem hs).2.2.1⟩) apL_dis
theorem apartV_ok {J : List Lg} (hc : checkJ J = 0) : apartV J = .tup [.ss (lls (bV (apL J))) (bV (apL J)).length ((apL J).length == 0), .i .i64 0] := by
 have e : (apL J).length = (apartS (locksTo J (2 ^ J.length)) 0).length := lexS_len
 unfold apartV
 rw [if_neg (by simp [hc]), lls_bV, bV_len, e]
 rfl
theorem apL_small {J : List Lg} : (apL J).length ≤ J.length := by
 have := dis_count (N := J.length) (m := 0) (apL_dis (J := J)) (fun s hs => ⟨(apL_mem hs).1, (apL_mem hs).2.1, Nat.and_zero s⟩)
 omega
end Go.Ab
end
section
namespace Go.Ab
open Go Go.Proofs
theorem byB_small {J : List Lg} (hc : ∀ p ∈ J, isL J.length p.2.1 = true) {n j : Nat} (hn : n < J.length) (h : ((byB J).getD n 0).testBit j = true) : j < J.length := by
 have hp : J[n]? = some J[n] := List.getElem?_eq_getElem hn
 have hL := hc _ (List.getElem_mem hn)
 generalize J[n] = p at *
 have hB : (byB J).getD n 0 = setB p.2.1 := by
  unfold byB
  rw [List.getD_eq_getElem?_getD, List.getElem?_map, hp]; rfl
 rw [hB] at h
 exact bit_small (setB_N hL) h
theorem frB_congr {J : List Lg} {B : List Nat} {n g g' : Nat} (h : ∀ j, (B.getD n 0).testBit j = true → g.testBit j = g'.testBit j) : frB J B n g = frB J B n g' := by
 unfold frB
 by_cases hk : kd J n = 0
 ·rw [if_pos hk, if_pos hk, Bool.eq_iff_iff, decide_eq_true_eq, decide_eq_true_eq, less_zero, less_zero]
  exact ⟨fun q j hj => by rw [← h j hj]; exact q j hj, fun q j hj => by rw [h j hj]; exact q j hj⟩
 ·rw [if_neg hk, if_neg hk, Bool.eq_iff_iff, decide_eq_true_eq, decide_eq_true_eq, and_ne, and_ne]
  exact ⟨fun ⟨j, h1, h2⟩ => ⟨j, h1, by rw [← h j h1]; exact h2⟩, fun ⟨j, h1, h2⟩ => ⟨j, h1, by rw [h j h1]; exact h2⟩⟩
theorem lockB_iff {J : List Lg} {t : Nat} (ht : t < 2 ^ 12) : lockB J t = true ↔ t ≠ 0 ∧ ∀ n, t.testBit n = true → frB J (byB J) n (cmpl t) = false := by
 unfold lockB freeAny
 rw [Bool.and_eq_true, decide_eq_true_eq, Bool.not_eq_true', List.any_eq_false]
 refine and_congr_right fun _ => ?_
 constructor
 ·intro h n hn
  have := h n (bl_mem.2 ⟨n, bit_small ht hn, rfl, hn⟩)
  simpa using this
 ·intro h x hx
  obtain ⟨j, hj, rfl, hb⟩ := bl_mem.1 hx
  simpa using h j hb
theorem left_gk {J : List Lg} {s j : Nat} (hj : j < J.length) : (left J s).testBit j = !(gk J (byB J) s J.length).testBit j := by
 have hb := wr_b (J := J) (B := byB J) (keys := s) (r := J.length) (n := j)
 have hw := wave_in (J := J) (B := byB J) (s := s) hj J.length
 rw [left_bit hj]
 cases hg : (gk J (byB J) s J.length).testBit j with
 | true => have := hw.2 hg; simp; omega
 | false =>
  have : ¬ (0 ≤ wr J (byB J) s J.length j ∧ wr J (byB J) s J.length j ≤ J.length) := fun h => by rw [hw.1 h] at hg; cases hg
  simp
  omega
theorem left_N' {J : List Lg} {s j : Nat} (h : (left J s).testBit j = true) : j < J.length := bit_small left_N h
theorem left_lock {J : List Lg} {s : Nat} (hN : J.length ≤ 12) (hc : ∀ p ∈ J, isL J.length p.2.1 = true) (h : left J s ≠ 0) : lockB J (left J s) = true := by
 have hpw := pow12 hN
 have hl := left_N (J := J) (s := s)
 rw [lockB_iff (by omega)]
 refine ⟨h, fun n hn => ?_⟩
 have hnN := left_N' hn
 have hg := hn
 rw [left_gk hnN, Bool.not_eq_true'] at hg
 have hst := gk_stable (J := J) (B := byB J) (s := s)
 have h1 := gk_step (J := J) (B := byB J) (s := s) (r := J.length) (j := n)
 rw [hst, hg] at h1
 simp [hnN] at h1
 rw [frB_congr (g' := gk J (byB J) s J.length) (fun j hj => ?_)]
 ·exact h1
 ·have hjN := byB_small hc hnN hj
  have h2 := left_gk (J := J) (s := s) hjN
  rw [cmpl_bit (by omega), h2, Bool.not_not, decide_eq_true (by omega : j < 16), Bool.true_and]
theorem lock_meets {J : List Lg} {s t : Nat} (hN : J.length ≤ 12) (hs : s < 65536) (ht : t < 2 ^ J.length) (hl : lockB J t = true) (h : left J s = 0) : s &&& t ≠ 0 := by
 have hpw := pow12 hN
 intro h0
 obtain ⟨hz, hf⟩ := (lockB_iff (by omega)).1 hl
 have key : ∀ r, ∀ j, t.testBit j = true → (gk J (byB J) s r).testBit j = false := by
  intro r
  induction r with
  | zero =>
   intro j hj
   have := congrArg (fun z => z.testBit j) h0
   simp only [Nat.testBit_and, hj, Bool.and_true, Nat.zero_testBit] at this
   exact this
  | succ r ih =>
   intro j hj
   rw [gk_step, ih j hj, Bool.false_or]
   cases hq : frB J (byB J) j (gk J (byB J) s r) with
   | false => rw [Bool.and_false]
   | true =>
    have := frB_mono (g' := cmpl t) (fun i hi => ?_) hq
    ·rw [hf j hj] at this
     cases this
    ·rw [cmpl_bit (by omega)]
     have hlt := gk_lt (J := J) (B := byB J) (keys := s) hs (by omega) (r := r)
     have hi16 := bit_small (N := 16) hlt hi
     cases hti : t.testBit i with
     | false => simp [hi16]
     | true => rw [ih i hti] at hi; cases hi
 obtain ⟨j, hj⟩ := Nat.exists_testBit_of_ne_zero hz
 have hjN := bit_small ht hj
 have h1 := left_gk (J := J) (s := s) hjN
 rw [key _ j hj, h, Nat.zero_testBit] at h1
 cases h1
theorem dis_sub {N : Nat} : ∀ {R : List Nat} {k : Nat}, R.Pairwise (fun a b => a &&& b = 0) → k < 2 ^ N → (∀ s ∈ R, s ≠ 0 ∧ less s k = 0) → R.length ≤ (bl k N).length
 | [], k, _, _, _ => Nat.zero_le _
 | x :: r, k, hp, hk, hm => by
  obtain ⟨hx, hr⟩ := List.pairwise_cons.1 hp
  obtain ⟨h1, h2⟩ := hm x (List.mem_cons_self ..)
  have h2' := less_zero.1 h2
  have ih := dis_sub (N := N) (k := less k x) hr (Nat.lt_of_le_of_lt less_le hk) (fun s hs => by
   obtain ⟨q1, q2⟩ := hm s (List.mem_cons_of_mem x hs)
   refine ⟨q1, less_zero.2 fun j hj => ?_⟩
   rw [less_bit, less_zero.1 q2 j hj, Bool.true_and, Bool.not_eq_true']
   cases hxj : x.testBit j with
   | false => rfl
   | true => exact absurd (hx s hs) (and_ne.2 ⟨j, hxj, hj⟩))
  obtain ⟨j, hj⟩ := Nat.exists_testBit_of_ne_zero h1
  have hlt := bl_lt (s := less k x) (t := k) (k := N) (fun i hi => by rw [less_bit, Bool.and_eq_true] at hi; exact hi.1) ⟨j, bit_small hk (h2' j hj), by rw [less_bit, hj]; simp, h2' j hj⟩
  simp
  omega
theorem dis_meet {N : Nat} {R : List Nat} {k : Nat} (hp : R.Pairwise (fun a b => a &&& b = 0)) (hk : k < 2 ^ N) (hm : ∀ s ∈ R, k &&& s ≠ 0) : R.length ≤ (bl k N).length := by
 have := dis_sub (N := N) (R := R.map (k &&& ·)) (k := k) (List.pairwise_map.2 (hp.imp fun {a b} h => ?_)) hk (fun s hs => ?_)
 ·simpa using this
 ·false_or_by_contra
  rename_i hn
  obtain ⟨j, h1, h2⟩ := and_ne.1 hn
  rw [Nat.testBit_and, Bool.and_eq_true] at h1 h2
  exact absurd h (and_ne.2 ⟨j, h1.2, h2.2⟩)
 ·obtain ⟨q, hq, rfl⟩ := List.mem_map.1 hs
  refine ⟨hm q hq, less_zero.2 fun j hj => ?_⟩
  rw [Nat.testBit_and, Bool.and_eq_true] at hj
  exact hj.1
end Go.Ab
end
section
namespace Go.Ab
open Go Go.Proofs
theorem left_full {J : List Lg} : left J (2 ^ J.length - 1) = 0 := by
 apply Nat.eq_of_testBit_eq
 intro j
 rw [Nat.zero_testBit]
 by_cases hj : j < J.length
 ·rw [left_bit hj]
  refine decide_eq_false ?_
  rw [wave_key hj (by rw [Nat.testBit_two_pow_sub_one]; simp [hj])]
  omega
 ·exact Nat.testBit_lt_two_pow (Nat.lt_of_lt_of_le left_N (Nat.pow_le_pow_right (by omega) (by omega)))
theorem pc_less {s n : Nat} (hs : s < 2 ^ 16) (h : s.testBit n = true) : pc (less s (2 ^ n)) < pc s := by
 have hn : n < 16 := by
  false_or_by_contra
  have := Nat.testBit_lt_two_pow (Nat.lt_of_lt_of_le hs (Nat.pow_le_pow_right (n := 2) (by omega) (by omega : 16 ≤ n)))
  rw [this] at h; cases h
 refine bl_lt (fun j hj => ?_) ⟨n, hn, ?_, h⟩
 ·rw [less_bit] at hj
  simp at hj
  exact hj.1
 ·rw [less_bit, Nat.testBit_two_pow_self]
  simp
theorem tight_iff {J : List Lg} {s : Nat} (hs : s < 2 ^ 12) : tightB J s = true ↔ left J s = 0 ∧ ∀ n, s.testBit n = true → left J (less s (2 ^ n)) ≠ 0 := by
 unfold tightB looseTo
 rw [List.take_of_length_le bl_len, Bool.and_eq_true, decide_eq_true_eq, Bool.not_eq_true', List.any_eq_false]
 refine and_congr_right fun _ => ?_
 constructor
 ·intro h n hn
  have hn12 : n < 12 := bit_small hs hn
  have := h n (bl_mem.2 ⟨n, hn12, rfl, hn⟩)
  simpa using this
 ·intro h x hx
  obtain ⟨j, hj, rfl, hb⟩ := bl_mem.1 hx
  simpa using h j hb
theorem keys_ne {J : List Lg} (hN : J.length ≤ 12) : keysTo J (2 ^ J.length) ≠ [] := by
 have hpw := pow12 hN
 obtain ⟨s, ⟨h1, h2⟩, h3⟩ := least_ex (p := fun s => s < 2 ^ J.length ∧ left J s = 0) (m := pc) _ ⟨2 ^ J.length - 1, ⟨by omega, left_full⟩, Nat.le_refl _⟩
 have : s ∈ keysTo J (2 ^ J.length) := by
  unfold keysTo
  rw [List.mem_filter, List.mem_range]
  refine ⟨h1, (tight_iff (by omega)).2 ⟨h2, fun n hn hl => ?_⟩⟩
  have := h3 (less s (2 ^ n)) ⟨less_lt h1, hl⟩
  have := pc_less (by omega) hn
  omega
 intro e
 rw [e] at this
 cases this
theorem keys_lt {J : List Lg} (hN : J.length ≤ 12) : ∀ s ∈ keysTo J (2 ^ J.length), s < 2 ^ 12 := fun s hs => by
 have hpw := pow12 hN
 have := (List.mem_filter.1 hs).1
 rw [List.mem_range] at this
 omega
def fewL (J : List Lg) : List Nat := (sortG setL (keysTo J (2 ^ J.length))).filter fun s => !decide (pc ((sortG setL (keysTo J (2 ^ J.length))).getD 0 0) < pc s)
theorem few107 {c id ver n x y : Nat} {cells : List V} {τ : List O} (hx : x < 65536) (hy : y < 65536) (h1 : τ[c]? = some (.row 0 [.s id ver 0 n 1])) (h2 : τ[id]? = some (.row ver cells)) (h3 : cells[0]? = some (u16V y)) (hn : n ≠ 0) : FSpec Tryz.prog 107 [u16V x, .p c 0 0] τ (.b (decide (pc y < pc x))) τ := by
 refine fn107.spec mixed noIt_ok ?_
 rw [ic107]
 obtain ⟨g1, g1'⟩ := List.getElem?_eq_some_iff.1 h1
 obtain ⟨g2, g2'⟩ := List.getElem?_eq_some_iff.1 h2
 obtain ⟨g3, g3'⟩ := List.getElem?_eq_some_iff.1 h3
 refine ab_seq_k fun K1 h1 => ?_
 simp
 refine h1 _ _ _ ?_
 clear h1 K1
 refine ab_seq_k fun K2 h2' => ?_
 simp [abDs_consU, drU, recheck_cons, recheck_nil, rcK, IS.dst]
 refine callK_of (many92 hx) ?_
 have hn' : 0 < n := by omega
 simp [abDs_consU, drU, recheck_cons, recheck_nil, rcK, IS.dst, h1, g1', h2, g2', h3, g3', hn']
 refine callK_of (many92 hy) ?_
 simp [abDs_consU, drU, recheck_cons, recheck_nil, rcK, IS.dst]
 refine h2' _ _ _ ?_
 simp
 refine fin_all ?_
 simp [rs107]
theorem few74 {J : List Lg} {f : Bool} {σ : List O} (hN : J.length ≤ 12) : FSpec Tryz.prog 74 [heapV J f] σ (.ss (us (fewL J)) (fewL J).length false) σ := by
 refine FSpec.frame (σ := σ) ?_ (by simp) (by simp)
 have hpw := pow12 hN
 have hkn := keys_ne hN
 have hkl := keysTo_len (J := J) (i := 2 ^ J.length)
 have hklt := keys_lt hN
 have h77 := fun σ => keys77 (J := J) (f := f) (σ := σ) hN
 unfold fewL
 generalize keysTo J (2 ^ J.length) = K at *
 have hSl : (sortG setL K).length = K.length := sortG_len (lt := setL)
 have hSp : (sortG setL K).Perm K := sortG_perm (lt := setL)
 have hSs : (sortG setL K).Pairwise (fun a b => setL b a = false) := sortG_sorted (lt := setL) (fun a b h => setL_asym h) (fun a b c h1 h2 => setL_ntr h1 h2)
 generalize hS : sortG setL K = S at *
 have hSn : S ≠ [] := fun e => hkn (List.length_eq_zero_iff.1 (by rw [← hSl, e]; rfl))
 have hSlt : ∀ s ∈ S, s < 2 ^ 12 := fun s hs => hklt s (hSp.mem_iff.1 hs)
 obtain ⟨y, S', hyS⟩ : ∃ y S', S = y :: S' := by
  cases S with
  | nil => exact absurd rfl hSn
  | cons y S' => exact ⟨y, S', rfl⟩
 have hy0 : S.getD 0 0 = y := by rw [hyS]; rfl
 have hS0 : S[0]? = some y := by rw [hyS]; rfl
 have hym : y ∈ S := List.mem_of_getElem? hS0
 clear hyS
 rw [hy0]
 clear hy0 S'
 generalize hFL : S.filter (fun s => !decide (pc y < pc s)) = FL
 refine FSpecQ.freeze (Q := fun v σ' => SlL σ' v (us FL)) ?_ (fun v σ' h => ⟨2, by rw [h.frz (by simp), us_len]⟩)
 refine qf74.specQ mixed noIt_ok ?_
 rw [q74]
 have hhp : (heapV J f).pure = true := by simp
 generalize heapV J f = H at *
 refine ab_seq_k fun K1 h1 => ?_
 simp
 refine h1 _ _ _ ?_
 clear h1 K1
 refine ab_seq_k fun K2 h2 => ?_
 simp
 refine callR_of (h77 _) ?_
 rintro v σ2 ⟨hv, -⟩
 simp [hv.one]
 refine h2 _ _ _ ?_
 clear h2 K2
 have hv2 := hv.app (g := [O.row 0 [v]])
 have hcell : (σ2 ++ [O.row 0 [v]])[σ2.length]? = some (.row 0 [v]) := by simp
 have hbid : idOf v ≠ some σ2.length := fun e => by have := (hv.id_ge e).2; omega
 generalize hc : σ2.length = c at *
 generalize σ2 ++ [O.row 0 [v]] = σ3 at *
 obtain ⟨hc1, hc'⟩ := List.getElem?_eq_some_iff.1 hcell
 have hDU : ∀ x ∈ us K, DU x := fun x hx => by
  obtain ⟨s, hs, rfl⟩ := List.mem_map.1 hx
  exact ⟨s, hklt s hs, rfl⟩
 have hso : (us S).Pairwise (fun x y => setL (unU y) (unU x) = false) := by
  unfold us
  rw [List.pairwise_map]
  refine hSs.imp fun {a b} h => ?_
  simpa [unU] using h
 obtain ⟨σ4, hsrt, hv4, -, hoth⟩ := srtU hv2 (by omega) hDU (hSp.map _) hso
 have hcell4 : σ4[c]? = some (.row 0 [v]) := by rw [hoth c hbid]; exact hcell
 obtain ⟨hd1, hd'⟩ := List.getElem?_eq_some_iff.1 hcell4
 refine ab_seq_k fun K2 h2 => ?_
 simp [hcell, hc']
 refine callK_of hsrt ?_
 simp
 refine h2 _ _ _ ?_
 clear h2 K2
 refine ab_seq_k fun K2 h2 => ?_
 simp [hcell4, hd']
 have hn0 : K.length ≠ 0 := fun h => hkn (List.length_eq_zero_iff.1 h)
 refine callR_of (delete80 (first := []) (cap := [.p c 0 0]) (p := fun s => decide (pc y < pc s)) hv4 hSn (by omega) ?_) ?_
 ·intro x hx τ t1 t2
  rcases hv4.cases with ⟨e1, -, -⟩ | ⟨id, ver, -, hid, e2, hs, hlt⟩
  ·exact absurd e1 hn0
  ·obtain ⟨cells, a1, a2⟩ := t2 id ver (by rw [e2])
   have a3 := a2 (fun y' hy' => by rw [hS0] at hy'; cases hy'; simp)
   rw [us_get hS0] at a3
   have hyl := hSlt y hym
   have hxl := hSlt x hx
   refine few107 (c := c) (id := id) (ver := ver) (n := K.length) (x := x) (y := y) (by omega) (by omega) ?_ a1 a3 hn0
   rw [t1 c hbid, hcell4, e2]
 ·rintro v' σ5 h5
  rw [hFL] at h5
  simp
  refine h2 _ _ _ ?_
  simp
  refine fin_Q ?_
  simp [rs74]
  exact h5
end Go.Ab
end
section
namespace Go.Ab
open Go Go.Proofs
theorem pc12 {s : Nat} (h : s < 2 ^ 12) : pc s = (bl s 12).length := by
 unfold pc
 have := bl_sh (s := s) (k := 12) (j := 4) h
 rw [show 16 = 12 + 4 from rfl, this]
def stepF (out : List Nat) (x : Nat) : List Nat := match out with
 | [] => [x]
 | y :: r => if pc x = pc y then y :: r ++ [x] else if pc x < pc y then [x] else y :: r
def refF (l : List Nat) : List Nat := l.foldl stepF []
theorem refF_snoc {l : List Nat} {x : Nat} : refF (l ++ [x]) = stepF (refF l) x := by simp [refF]
def minQ (l : List Nat) (s : Nat) : Bool := l.all fun t => decide (pc s ≤ pc t)
theorem minQ_iff {l : List Nat} {s : Nat} : minQ l s = true ↔ ∀ t ∈ l, pc s ≤ pc t := by
 unfold minQ; rw [List.all_eq_true]; simp
theorem refF_spec (l : List Nat) : refF l = l.filter (minQ l) := by
 refine snoc_ind (P := fun l => refF l = l.filter (minQ l)) rfl ?_ l
 intro l x ih
 rw [refF_snoc, ih]
 have hmin : l ≠ [] → ∃ y ∈ l, minQ l y = true := fun hne => by
  cases l with
  | nil => exact absurd rfl hne
  | cons a r =>
   obtain ⟨s, h1, h2⟩ := least_ex (p := fun s => s ∈ a :: r) (m := pc) (pc a) ⟨a, List.mem_cons_self .., Nat.le_refl _⟩
   exact ⟨s, h1, minQ_iff.2 h2⟩
 cases hf : l.filter (minQ l) with
 | nil =>
  have hl : l = [] := by
   false_or_by_contra
   rename_i hne
   obtain ⟨y, h1, h2⟩ := hmin hne
   have : y ∈ l.filter (minQ l) := List.mem_filter.2 ⟨h1, h2⟩
   rw [hf] at this; cases this
  subst hl
  simp [stepF, minQ]
 | cons y r =>
  have hy : y ∈ l.filter (minQ l) := by rw [hf]; exact List.mem_cons_self ..
  obtain ⟨hy1, hy2⟩ := List.mem_filter.1 hy
  rw [minQ_iff] at hy2
  rw [List.filter_append]
  have hx : minQ (l ++ [x]) x = decide (pc x ≤ pc y) := by
   rw [Bool.eq_iff_iff, minQ_iff, decide_eq_true_eq]
   constructor
   ·intro h; exact h y (List.mem_append.2 (.inl hy1))
   ·intro h t ht
    rcases List.mem_append.1 ht with ht | ht
    ·have := hy2 t ht; omega
    ·rw [List.mem_singleton] at ht; subst ht; exact Nat.le_refl _
  have hold : ∀ s ∈ l, minQ (l ++ [x]) s = (minQ l s && decide (pc s ≤ pc x)) := fun s _ => by
   rw [Bool.eq_iff_iff, Bool.and_eq_true, minQ_iff, minQ_iff, decide_eq_true_eq]
   constructor
   ·intro h; exact ⟨fun t ht => h t (List.mem_append.2 (.inl ht)), h x (List.mem_append.2 (.inr (List.mem_singleton.2 rfl)))⟩
   ·rintro ⟨h1, h2⟩ t ht
    rcases List.mem_append.1 ht with ht | ht
    ·exact h1 t ht
    ·rw [List.mem_singleton] at ht; subst ht; exact h2
  have hey : ∀ s ∈ l, minQ l s = true → pc s = pc y := fun s hs h => by
   have h1 := minQ_iff.1 h y hy1
   have h2 := hy2 s hs
   omega
  simp only [stepF]
  by_cases c1 : pc x = pc y
  ·rw [if_pos c1]
   have : l.filter (minQ (l ++ [x])) = y :: r := by
    rw [← hf]
    refine List.filter_congr fun s hs => ?_
    rw [hold s hs]
    cases hm : minQ l s with
    | false => rfl
    | true => have := hey s hs hm; simp; omega
   rw [this]
   simp [hx, c1]
  ·rw [if_neg c1]
   by_cases c2 : pc x < pc y
   ·rw [if_pos c2]
    have : l.filter (minQ (l ++ [x])) = [] := by
     rw [List.filter_eq_nil_iff]
     intro s hs
     rw [hold s hs]
     have := hy2 s hs
     simp
     intro _
     omega
    rw [this]
    have : pc x ≤ pc y := by omega
    simp [hx, this]
   ·rw [if_neg c2]
    have : l.filter (minQ (l ++ [x])) = y :: r := by
     rw [← hf]
     refine List.filter_congr fun s hs => ?_
     rw [hold s hs]
     cases hm : minQ l s with
     | false => rfl
     | true => have := hey s hs hm; simp; omega
    rw [this]
    have : ¬ pc x ≤ pc y := by omega
    simp [hx, this]
theorem few_eq {J : List Lg} (hN : J.length ≤ 12) : fewL J = refF (lexS (keysTo J (2 ^ J.length))) := by
 have hkn := keys_ne hN
 have hklt := keys_lt hN
 rw [refF_spec]
 unfold fewL
 generalize keysTo J (2 ^ J.length) = K at *
 have hSp : (sortG setL K).Perm K := sortG_perm (lt := setL)
 have hSs : (sortG setL K).Pairwise (fun a b => setL b a = false) := sortG_sorted (lt := setL) (fun a b h => setL_asym h) (fun a b c h1 h2 => setL_ntr h1 h2)
 generalize sortG setL K = S at *
 have hLp := lexS_perm (l := K)
 have hLs := lexS_sorted (l := K)
 generalize lexS K = M at *
 obtain ⟨y, S', rfl⟩ : ∃ y S', S = y :: S' := by
  cases S with
  | nil => exact absurd hSp.symm.eq_nil hkn
  | cons y S' => exact ⟨y, S', rfl⟩
 have hy0 : (y :: S').getD 0 0 = y := rfl
 rw [hy0]
 have hyK : y ∈ K := hSp.mem_iff.1 (List.mem_cons_self ..)
 have hymin : ∀ t ∈ K, pc y ≤ pc t := fun t ht => by
  have := hSp.mem_iff.2 ht
  rcases List.mem_cons.1 this with rfl | h
  ·exact Nat.le_refl _
  ·rw [List.pairwise_cons] at hSs
   have := hSs.1 t h
   unfold setL at this
   simp only [Bool.or_eq_false_iff, decide_eq_false_iff_not] at this
   omega
 have hpq : ∀ s ∈ K, (!decide (pc y < pc s)) = minQ M s := fun s hs => by
  rw [Bool.eq_iff_iff, Bool.not_eq_true', decide_eq_false_iff_not, minQ_iff]
  constructor
  ·intro h t ht
   have := hymin t (hLp.mem_iff.1 ht)
   omega
  ·intro h
   have := h y (hLp.mem_iff.2 hyK)
   omega
 have hA : ((y :: S').filter fun s => !decide (pc y < pc s)).Perm (K.filter fun s => !decide (pc y < pc s)) := hSp.filter _
 have hB : (M.filter (minQ M)).Perm (K.filter (minQ M)) := hLp.filter _
 have hC : K.filter (fun s => !decide (pc y < pc s)) = K.filter (minQ M) := List.filter_congr hpq
 rw [hC] at hA
 have hAm : ∀ s ∈ (y :: S').filter (fun s => !decide (pc y < pc s)), s ∈ K ∧ pc s = pc y := fun s hs => by
  obtain ⟨h1, h2⟩ := List.mem_filter.1 hs
  have h3 := hSp.mem_iff.1 h1
  have := hymin s h3
  simp at h2
  exact ⟨h3, by omega⟩
 refine perm_sorted_eq (le := fun a b => lexN b a = false) (hA.trans hB.symm) ?_ ?_ ?_
 ·refine List.Pairwise.imp_of_mem ?_ (hSs.sublist List.filter_sublist)
  intro a b ha hb h
  have e1 := (hAm a ha).2
  have e2 := (hAm b hb).2
  unfold setL at h
  simp only [Bool.or_eq_false_iff, Bool.and_eq_false_iff, decide_eq_false_iff_not] at h
  exact h.2.resolve_left (by omega)
 ·exact hLs.sublist List.filter_sublist
 ·intro a ha b hb h1 h2
  exact bl_inj (hklt a (hAm a ha).1) (hklt b (hAm b hb).1) (lexL_tri h2 h1)
theorem few_ne {J : List Lg} (hN : J.length ≤ 12) : fewL J ≠ [] := by
 rw [few_eq hN, refF_spec]
 have hkn := keys_ne hN
 have hLp := lexS_perm (l := keysTo J (2 ^ J.length))
 generalize lexS (keysTo J (2 ^ J.length)) = M at *
 have hM : M ≠ [] := fun e => by rw [e] at hLp; exact hkn (hLp.symm.eq_nil)
 intro e
 cases M with
 | nil => exact hM rfl
 | cons a r =>
  obtain ⟨s, h1, h2⟩ := least_ex (p := fun s => s ∈ a :: r) (m := pc) (pc a) ⟨a, List.mem_cons_self .., Nat.le_refl _⟩
  have : s ∈ (a :: r).filter (minQ (a :: r)) := List.mem_filter.2 ⟨h1, minQ_iff.2 h2⟩
  rw [e] at this; cases this
theorem few_lt {J : List Lg} (hN : J.length ≤ 12) : ∀ s ∈ fewL J, s < 2 ^ 12 := fun s hs => by
 rw [few_eq hN, refF_spec] at hs
 exact keys_lt hN s (lexS_perm.mem_iff.1 (List.mem_filter.1 hs).1)
def few0 (J : List Lg) : Nat := (fewL J).getD 0 0
def fewV (J : List Lg) : V := if checkJ J ≠ 0 then .tup [.ss [] 0 true, .i .i64 (checkJ J)] else .tup [listV (few0 J), .i .i64 0]
theorem fewV_pure {J} : (fewV J).pure = true := by
 unfold fewV
 split
 ·rfl
 ·simp [listV]
theorem fewest29 {J : List Lg} {f : Bool} {σ : List O} (hJ : J.length ≤ 1000000) (hl : ∀ x ∈ J, x.2.1.length ≤ 1000000) : FSpec Tryz.prog 29 [jamV J f] σ (fewV J) σ := by
 refine FSpec.frame (σ := σ) ?_ (by simp) fewV_pure
 have h62 := fun σ => open62 (f := f) (l := []) (fl := true) (σ := σ) hJ hl (by simp)
 refine fn29.spec0 mixed noIt_ok ?_
 rw [ic29]
 refine ab_seq_k fun K1 h1 => ?_
 simp
 refine h1 _ _ _ ?_
 clear h1 K1
 refine ab_seq_k fun K2 h2 => ?_
 simp
 refine callK_of (h62 _) ?_
 rcases open_nil (f := f) hl with ⟨hc, ho⟩ | ⟨hc, hJO, ho⟩
 ·have hv : fewV J = .tup [.ss [] 0 true, .i .i64 (checkJ J)] := by unfold fewV; rw [if_pos hc]
  rw [ho]
  simp
  refine h2 _ _ _ ?_
  clear h2 K2
  refine ab_seq_k fun K3 h3 => ?_
  refine ab_seq_k fun K5 h5 => ?_
  simp
  refine h5 _ _ _ ?_
  clear h5 K5
  refine ab_cond_of rfl (fun _ => ?_) (fun h => by simp at h; omega)
  refine ab_seq_k fun K6 h6 => ?_
  simp
  refine h6 _ _ _ ?_
  clear h6 K6
  simp
  refine fin_of 3 ?_
  simp [rs29, hv]
 ·have hN := hJO.2.1
  have h74 := fun σ => few74 (J := J) (f := f) (σ := σ) hN
  have hv : fewV J = .tup [listV (few0 J), .i .i64 0] := by unfold fewV; rw [if_neg (by simp [hc])]
  have hne := few_ne hN
  have hlt := few_lt hN
  unfold few0 at hv
  generalize fewL J = L at *
  have hL0 : 0 < L.length := Nat.pos_of_ne_zero fun h => hne (List.length_eq_zero_iff.1 h)
  have hx : L[0]? = some (L.getD 0 0) := by rw [List.getD_eq_getElem?_getD, List.getElem?_eq_getElem hL0]; rfl
  have hxl := hlt _ (List.mem_of_getElem? hx)
  generalize L.getD 0 0 = x at *
  obtain ⟨hx1, hx'⟩ := List.getElem?_eq_some_iff.1 hx
  rw [ho]
  simp
  refine h2 _ _ _ ?_
  clear h2 K2
  refine ab_seq_k fun K3 h3 => ?_
  refine ab_seq_k fun K5 h5 => ?_
  simp
  refine h5 _ _ _ ?_
  clear h5 K5
  refine ab_cond_of rfl (fun h => by simp at h) (fun _ => ?_)
  simp
  refine h3 _ _ _ ?_
  clear h3 K3
  refine ab_seq_k fun K7 h7 => ?_
  simp
  refine callK_of (h74 _) ?_
  simp [hL0, hx, hx']
  refine callK_of (list68 (by omega)) ?_
  simp
  refine h7 _ _ _ ?_
  simp
  refine fin_of 3 ?_
  simp [rs29, hv, listV]
end Go.Ab
end
section
namespace Go.Ab
open Go Go.Proofs
theorem keys_mem {J : List Lg} {s : Nat} (hN : J.length ≤ 12) : s ∈ keysTo J (2 ^ J.length) ↔ s < 2 ^ J.length ∧ left J s = 0 ∧ ∀ n, s.testBit n = true → left J (less s (2 ^ n)) ≠ 0 := by
 have hpw := pow12 hN
 unfold keysTo
 rw [List.mem_filter, List.mem_range]
 exact and_congr_right fun h => tight_iff (by omega)
theorem keys_under {J : List Lg} {s : Nat} (hN : J.length ≤ 12) (hs : s < 2 ^ J.length) (h : left J s = 0) : ∃ u, u ∈ keysTo J (2 ^ J.length) ∧ less u s = 0 := by
 have hpw := pow12 hN
 obtain ⟨u, ⟨h1, h2, h3⟩, h4⟩ := least_ex (p := fun u => u < 2 ^ J.length ∧ left J u = 0 ∧ less u s = 0) (m := pc) _ ⟨s, ⟨hs, h, less_zero.2 fun _ hj => hj⟩, Nat.le_refl _⟩
 refine ⟨u, (keys_mem hN).2 ⟨h1, h2, fun n hn hl => ?_⟩, h3⟩
 have h5 := h4 (less u (2 ^ n)) ⟨less_lt h1, hl, less_zero.2 fun j hj => less_zero.1 h3 j (by rw [less_bit, Bool.and_eq_true] at hj; exact hj.1)⟩
 have := pc_less (by omega) hn
 omega
theorem pc_sub {u s : Nat} (h : less u s = 0) : pc u ≤ pc s := bl_sublen (less_zero.1 h)
theorem few0_spec {J : List Lg} (hN : J.length ≤ 12) : few0 J ∈ keysTo J (2 ^ J.length) ∧ ∀ t ∈ keysTo J (2 ^ J.length), pc (few0 J) ≤ pc t := by
 have hne := few_ne (J := J) hN
 have hm : few0 J ∈ fewL J := by
  unfold few0
  cases h : fewL J with
  | nil => exact absurd h hne
  | cons a l => exact List.mem_cons_self ..
 rw [few_eq hN, refF_spec] at hm
 obtain ⟨h1, h2⟩ := List.mem_filter.1 hm
 rw [minQ_iff] at h2
 exact ⟨lexS_perm.mem_iff.1 h1, fun t ht => h2 t (lexS_perm.mem_iff.2 ht)⟩
theorem few0_left {J : List Lg} (hN : J.length ≤ 12) : few0 J < 2 ^ J.length ∧ left J (few0 J) = 0 := by
 obtain ⟨h1, h2, -⟩ := (keys_mem hN).1 (few0_spec hN).1
 exact ⟨h1, h2⟩
theorem few0_le {J : List Lg} {s : Nat} (hN : J.length ≤ 12) (hs : s < 2 ^ J.length) (h : left J s = 0) : pc (few0 J) ≤ pc s := by
 obtain ⟨u, hu, hus⟩ := keys_under hN hs h
 exact Nat.le_trans ((few0_spec hN).2 u hu) (pc_sub hus)
theorem keyE_bl {J : List Lg} {s k : Nat} (hc : checkJ J = 0) (hs : s < 2 ^ J.length) (hk : J.length ≤ k) : keyE J (bl s k) = if left J s ≠ 0 then 21 else 0 := by
 have h12 : s < 2 ^ k := Nat.lt_of_lt_of_le hs (Nat.pow_le_pow_right (by omega) hk)
 unfold keyE
 rw [if_neg (by simp [hc]), isL_bl hs, if_neg (by decide), setB_bl h12]
end Go.Ab
end
section
namespace Go.Ab
open Go Go.Proofs
theorem most_best : ∀ {L D : List Nat} {m : Nat}, D.Pairwise (fun a b => a &&& b = 0) → (∀ s ∈ D, s ∈ L ∧ s ≠ 0 ∧ s &&& m = 0) → D.length ≤ mostS L m
 | [], D, m, _, h => by
  cases D with
  | nil => exact Nat.zero_le _
  | cons a l => exact absurd (h a (List.mem_cons_self ..)).1 (List.not_mem_nil)
 | x :: r, D, m, hp, h => by
  have hge : mostS r m ≤ mostS (x :: r) m := by
   simp only [mostS]
   split
   ·exact Nat.le_refl _
   ·exact Nat.le_max_left _ _
  by_cases hx : x ∈ D
  ·obtain ⟨h1, h2, h3⟩ := h x hx
   have hperm := List.perm_cons_erase hx
   have hp2 := (List.Perm.pairwise_iff (R := fun a b => a &&& b = 0) (fun {a b} h => by rw [Nat.and_comm]; exact h) hperm).1 hp
   obtain ⟨hq, hr⟩ := List.pairwise_cons.1 hp2
   have hl := hperm.length_eq
   have ih := most_best (L := r) (D := D.erase x) (m := m ||| x) hr (fun s hs => by
    obtain ⟨q1, q2, q3⟩ := h s (List.mem_of_mem_erase hs)
    have hxs := hq s hs
    refine ⟨?_, q2, and_or.2 ⟨q3, by rw [Nat.and_comm]; exact hxs⟩⟩
    rcases List.mem_cons.1 q1 with rfl | q1
    ·rw [Nat.and_self] at hxs
     exact absurd hxs q2
    ·exact q1)
   have : 1 + mostS r (m ||| x) ≤ mostS (x :: r) m := by
    simp only [mostS]
    rw [if_neg (fun h => h h3)]
    exact Nat.le_max_right _ _
   simp at hl
   omega
  ·have ih := most_best (L := r) (D := D) (m := m) hp (fun s hs => by
    obtain ⟨q1, q2, q3⟩ := h s hs
    rcases List.mem_cons.1 q1 with rfl | q1
    ·exact absurd hs hx
    ·exact ⟨q1, q2, q3⟩)
   omega
theorem apL_most {J : List Lg} : (apL J).length = mostS (locksTo J (2 ^ J.length)) 0 := by
 unfold apL
 rw [lexS_len, apartS_most]
theorem ap_le {J : List Lg} {s : Nat} (hN : J.length ≤ 12) (hs : s < 2 ^ J.length) (h : left J s = 0) : (apL J).length ≤ (bl s 12).length := by
 have hpw := pow12 hN
 exact dis_meet (N := 12) apL_dis (by omega) (fun t ht => lock_meets hN (by omega) (apL_mem ht).1 (apL_mem ht).2.2.1 h)
theorem locks_mem {J : List Lg} {u t : Nat} (h : minLock J u = true) (hu : less u t = 0) (ht : t < 2 ^ J.length) : u ∈ locksTo J (2 ^ J.length) :=
 List.mem_filter.2 ⟨List.mem_range.2 (Nat.lt_of_le_of_lt (sub_le hu) ht), h⟩
theorem ap_pos {J : List Lg} (hN : J.length ≤ 12) (hc : ∀ p ∈ J, isL J.length p.2.1 = true) (h : 0 < (bl (few0 J) 12).length) : 0 < (apL J).length := by
 have hpw := pow12 hN
 have hl0 : left J 0 ≠ 0 := by
  intro h0
  have h1 := few0_le hN (by omega) h0
  have hp0 : pc 0 = 0 := by decide
  have h2 := (few0_left (J := J) hN).1
  rw [hp0, pc12 (by omega)] at h1
  omega
 have hl := left_lock hN hc hl0
 obtain ⟨u, h1, h2⟩ := min_under hl
 have hm := locks_mem h1 h2 left_N
 have := most_best (L := locksTo J (2 ^ J.length)) (D := [u]) (m := 0) (List.pairwise_singleton _ _) (fun s hs => by
  rw [List.mem_singleton] at hs
  subst hs
  exact ⟨hm, lock_nz (minLock_iff.1 h1).1, Nat.and_zero _⟩)
 rw [apL_most]
 have h3 : 1 ≤ mostS (locksTo J (2 ^ J.length)) 0 := this
 omega
theorem ap_best {J : List Lg} {B : List (List Int × Bool)} (h : apE J B = 0) : B.length ≤ (apL J).length := by
 unfold apE at h
 by_cases hc : checkJ J = 0
 case neg => rw [if_pos hc] at h; exact absurd h hc
 rw [if_neg (fun h => h hc)] at h
 by_cases h12 : 12 < B.length
 ·rw [if_pos h12] at h; cases h
 rw [if_neg h12] at h
 by_cases he : errL J B = 0
 case neg => rw [if_pos he] at h; exact absurd h he
 rw [if_neg (fun h => h he)] at h
 cases hb : bump B with
 | true => rw [hb] at h; cases h
 | false =>
  have hall := errL_zero.1 he
  have hno := bump_false.1 hb
  have hl : ∀ i, i < B.length → isL J.length (gl B i) = true ∧ lockB J (setB (gl B i)) = true := fun i hi => by
   have hp : B[i]? = some B[i] := List.getElem?_eq_getElem hi
   rw [gl_get hp]
   obtain ⟨-, h1, h2⟩ := lockE_ok (hall _ (List.getElem_mem hi))
   exact ⟨h1, h2⟩
  have hex : ∀ i, ∃ u, i < B.length → minLock J u = true ∧ less u (setB (gl B i)) = 0 := fun i => by
   by_cases hi : i < B.length
   ·obtain ⟨u, h1, h2⟩ := min_under (hl i hi).2
    exact ⟨u, fun _ => ⟨h1, h2⟩⟩
   ·exact ⟨0, fun h => absurd h hi⟩
  obtain ⟨F, hF⟩ := Classical.axiomOfChoice hex
  have := most_best (L := locksTo J (2 ^ J.length)) (D := (List.range B.length).map F) (m := 0) (List.pairwise_map.2 (List.pairwise_lt_range.imp_of_mem fun {a b} ha hb hlt => ?_)) (fun s hs => ?_)
  ·rw [apL_most]
   simpa using this
  ·rw [List.mem_range] at ha hb
   false_or_by_contra
   rename_i hn
   obtain ⟨j, h1, h2⟩ := and_ne.1 hn
   have h3 := less_zero.1 (hF a ha).2 j h1
   have h4 := less_zero.1 (hF b hb).2 j h2
   have h5 := (meet_set (A := gl B b) (B := gl B a) (fun x hx => (isLF_mem (hl b hb).1 x hx).1) (fun x hx => (isLF_mem (hl a ha).1 x hx).1)).2 (and_ne.2 ⟨j, h4, h3⟩)
   rw [hno b hb a hlt] at h5
   cases h5
  ·obtain ⟨i, hi, rfl⟩ := List.mem_map.1 hs
   rw [List.mem_range] at hi
   exact ⟨locks_mem (hF i hi).1 (hF i hi).2 (setB_N (hl i hi).1), lock_nz (minLock_iff.1 (hF i hi).1).1, Nat.and_zero _⟩
end Go.Ab
end
section
namespace Go.Ab
open Go Go.Proofs
theorem works_run : runY 18 [] = some (.b true, []) := by kernel_rfl
theorem works_ok : FSpec Tryz.prog 18 [] [] (.b true) [] := runY_ok works_run
theorem wk (σ : List O) : FSpec Tryz.prog 18 [] σ (.b true) σ := FSpec.frame works_ok (by simp) rfl
end Go.Ab
end
section
namespace Go.Ab
open Go Go.Proofs
def ic11 : IC := (.seq (.reg [.op (some 2) none (.box (.t 0)), .op (some 4) none (.mov (.c (.b false)))] (some [1, 2])) (.seq (.seq (.reg [.op (some 13) none (.loadA 1 (.t 2)), .call (some 14) none 47 [(.t 13)], .op (some 15) none (.not (.t 14)), .op (some 16) none (.mov (.t 15)), .op (some 17) (some (16, false)) (.mov (.t 1)), .call (some 18) (some (16, false)) 40 [(.t 17)], .op (some 19) none (.pick (.t 16) (.c (.b true)) (.t 18))] (some [1, 2, 19])) (.cond (.t 19) (.seq (.reg [.call (some 20) none 18 [], .op (some 4) none (.mov (.t 20))] (some [4])) .ret) .skip)) (.seq (.reg [.op (some 22) none (.loadA 1 (.t 2)), .call (some 23) none 29 [(.t 22)], .op (some 21) none (.mov (.t 23)), .op (some 24) none (.ext 0 (.t 21)), .op (some 25) none (.ext 1 (.t 21)), .op (some 5) none (.mov (.t 24)), .op (some 6) none (.mov (.t 25))] (some [1, 2, 5, 6])) (.seq (.reg [.op (some 27) none (.loadA 1 (.t 2)), .call (some 28) none 43 [(.t 27)], .op (some 26) none (.mov (.t 28)), .op (some 29) none (.ext 0 (.t 26)), .op (some 30) none (.ext 1 (.t 26)), .op (some 7) none (.mov (.t 29)), .op (some 8) none (.mov (.t 30))] (some [1, 2, 5, 6, 7, 8])) (.seq (.seq (.reg [.op (some 31) none (.mov (.t 6)), .op (some 32) none (.bin .neq (.t 31) (.c (.i .i64 0))), .op (some 33) none (.mov (.t 32)), .op (some 34) (some (33, false)) (.mov (.t 8)), .op (some 35) (some (33, false)) (.bin .neq (.t 34) (.c (.i .i64 0))), .op (some 36) none (.pick (.t 33) (.c (.b true)) (.t 35)), .op (some 37) none (.mov (.t 36)), .op (some 38) (some (37, false)) (.mov (.t 7)), .op (some 39) (some (37, false)) (.len (.t 38)), .op (some 40) (some (37, false)) (.bin .gtr (.t 39) (.c (.i .i64 12))), .op (some 41) none (.pick (.t 37) (.c (.b true)) (.t 40)), .op (some 42) none (.mov (.t 41)), .op (some 43) (some (42, false)) (.loadA 1 (.t 2)), .op (some 44) (some (42, false)) (.mov (.t 5)), .call (some 45) (some (42, false)) 27 [(.t 43), (.t 44)], .op (some 46) (some (42, false)) (.bin .neq (.t 45) (.c (.i .i64 0))), .op (some 47) none (.pick (.t 42) (.c (.b true)) (.t 46))] (some [1, 2, 5, 7, 47])) (.cond (.t 47) (.seq (.reg [.op (some 4) none (.mov (.c (.b false)))] (some [4])) .ret) .skip)) (.seq (.reg [.op (some 49) none (.loadA 1 (.t 2)), .op (some 50) none (.mov (.t 7)), .call (some 51) none 41 [(.t 49), (.t 50)], .op (some 48) none (.mov (.t 51)), .op (some 52) none (.ext 0 (.t 48)), .op (some 53) none (.ext 1 (.t 48)), .op (some 9) none (.mov (.t 52)), .op (some 6) none (.mov (.t 53))] (some [1, 2, 5, 6, 7, 9])) (.seq (.reg [.op (some 55) none (.loadA 1 (.t 2)), .op (some 56) none (.mov (.t 7)), .call (some 57) none 42 [(.t 55), (.t 56)], .op (some 54) none (.mov (.t 57)), .op (some 58) none (.ext 0 (.t 54)), .op (some 59) none (.ext 1 (.t 54)), .op (some 10) none (.mov (.t 58)), .op (some 8) none (.mov (.t 59))] (some [1, 2, 5, 6, 8, 9, 10])) (.seq (.reg [.op (some 61) none (.loadA 1 (.t 2)), .op (some 62) none (.mov (.t 1)), .call (some 63) none 41 [(.t 61), (.t 62)], .op (some 60) none (.mov (.t 63)), .op (some 64) none (.ext 0 (.t 60)), .op (some 65) none (.ext 1 (.t 60)), .op (some 11) none (.mov (.t 64)), .op (some 12) none (.mov (.t 65))] (some [5, 6, 8, 9, 10, 11, 12])) (.seq (.reg [.op (some 66) none (.mov (.t 6)), .op (some 67) none (.bin .eql (.t 66) (.c (.i .i64 0))), .op (some 68) none (.mov (.t 67)), .op (some 69) (some (68, true)) (.mov (.t 8)), .op (some 70) (some (68, true)) (.bin .eql (.t 69) (.c (.i .i64 0))), .op (some 71) none (.pick (.t 68) (.t 70) (.c (.b false))), .op (some 72) none (.mov (.t 71)), .op (some 73) (some (72, true)) (.mov (.t 9)), .op (some 74) (some (72, true)) (.mov (.t 10)), .op (some 75) (some (72, true)) (.bin .eql (.t 73) (.t 74)), .op (some 76) none (.pick (.t 72) (.t 75) (.c (.b false))), .op (some 77) none (.mov (.t 76)), .op (some 78) (some (77, true)) (.mov (.t 9)), .op (some 79) (some (77, true)) (.mov (.t 5)), .op (some 80) (some (77, true)) (.len (.t 79)), .op (some 81) (some (77, true)) (.bin .leq (.t 78) (.t 80)), .op (some 82) none (.pick (.t 77) (.t 81) (.c (.b false))), .op (some 83) none (.mov (.t 82)), .op (some 84) (some (83, true)) (.mov (.t 9)), .op (some 85) (some (83, true)) (.bin .gtr (.t 84) (.c (.i .i64 0))), .op (some 86) (some (83, true)) (.mov (.t 5)), .op (some 87) (some (83, true)) (.len (.t 86)), .op (some 88) (some (83, true)) (.bin .gtr (.t 87) (.c (.i .i64 0))), .op (some 89) (some (83, true)) (.eqb false (.t 85) (.t 88)), .op (some 90) none (.pick (.t 83) (.t 89) (.c (.b false))), .op (some 91) none (.mov (.t 90)), .op (some 92) (some (91, true)) (.mov (.t 12)), .op (some 93) (some (91, true)) (.bin .neq (.t 92) (.c (.i .i64 0))), .op (some 94) (some (91, true)) (.mov (.t 93)), .op (some 95) (some (94, false)) (.mov (.t 11)), .op (some 96) (some (94, false)) (.mov (.t 9)), .op (some 97) (some (94, false)) (.bin .leq (.t 95) (.t 96)), .op (some 98) (some (91, true)) (.pick (.t 94) (.c (.b true)) (.t 97)), .op (some 99) none (.pick (.t 91) (.t 98) (.c (.b false))), .op (some 100) none (.mov (.t 99)), .call (some 101) (some (100, true)) 18 [], .op (some 102) none (.pick (.t 100) (.t 101) (.c (.b false))), .op (some 4) none (.mov (.t 102))] (some [4])) .ret)))))))))
def rs11 : List IRes := [.tmp 4]
theorem fn11 : Fn_ Tryz.prog 11 Tryz.f11 [] ic11 rs11 := ⟨by kernel_rfl, by decide, by kernel_rfl, by kernel_rfl⟩
theorem far_little {B : List (List Int × Bool)} (h : farB B = false) : B.length ≤ 16 ∧ ∀ p ∈ B, p.1.length ≤ 16 := by
 unfold farB at h
 rw [Bool.or_eq_false_iff, decide_eq_false_iff_not, List.any_eq_false] at h
 exact ⟨by omega, fun p hp => by have := h.2 p hp; rw [decide_eq_true_eq] at this; omega⟩
theorem jamApart {J : List Lg} {f fB : Bool} {B : List (List Int × Bool)} {σ : List O} : FSpec Tryz.prog 11 [jamV J f, .ss (lls B) B.length fB] σ (.b true) σ := by
 refine FSpec.frame (σ := σ) ?_ (by simp) rfl
 refine fn11.spec0 mixed noIt_ok ?_
 rw [ic11]
 refine ab_seq_k fun K1 h1 => ?_
 simp
 refine h1 _ _ _ ?_
 clear h1 K1
 refine ab_seq_k fun K2 h2 => ?_
 refine ab_seq_k fun K3 h3 => ?_
 simp
 refine callK_of fine47 ?_
 have hK3 : ∀ env c, get env 1 = .ss (lls B) B.length fB → get env 2 = .p 0 0 0 → get env 19 = .b c → c = (!fineB J || farB B) → K3 (some 0) env [.row 0 [slJ J f]] := by
  intro env c w1 w2 w19 hc
  refine h3 _ _ _ ?_
  clear h3 K3
  cases c with
  | true =>
   refine ab_cond_of w19 (fun _ => ?_) (fun h => by cases h)
   refine ab_seq_k fun K4 h4 => ?_
   simp
   refine callK_of (wk _) ?_
   simp
   refine h4 _ _ _ ?_
   clear h4 K4
   simp
   exact fin_of 1 (by simp [rs11])
  | false =>
   refine ab_cond_of w19 (fun h => by cases h) (fun _ => ?_)
   have hc' := hc.symm
   rw [Bool.or_eq_false_iff, Bool.not_eq_false'] at hc'
   obtain ⟨hfi, hfar⟩ := hc'
   obtain ⟨hJO, hck, hp⟩ := fine_ok hfi
   obtain ⟨hB, hb⟩ := far_little hfar
   have hN := hJO.2.1
   have hpw := pow12 hN
   have hJ1 : J.length ≤ 1000000 := by omega
   have hl1 : ∀ x ∈ J, x.2.1.length ≤ 1000000 := fun x hx => by have := (hp x hx).2.2; omega
   simp [w1, w2]
   refine h2 _ _ _ ?_
   clear h2 K2
   obtain ⟨hf1, hf2⟩ := few0_left (J := J) hN
   have hfl := bl_len (s := few0 J) (k := 12)
   have q29 := fun σ => fewest29 (f := f) (σ := σ) hJ1 hl1
   have hfv : fewV J = .tup [sl (bl (few0 J) 12) ((bl (few0 J) 12).length == 0), .i .i64 0] := by unfold fewV; rw [if_neg (fun h => h hck)]; rfl
   rw [hfv] at q29
   have q27 := fun σ => checkKeys27 (f := f) (fk := (bl (few0 J) 12).length == 0) (k := bl (few0 J) 12) (σ := σ) hJ1 hl1 (by omega)
   rw [keyE_bl hck hf1 hN, if_neg (fun h => h hf2)] at q27
   have q43 := fun σ => apart43 (f := f) (σ := σ) hJ1 hl1
   rw [apartV_ok hck] at q43
   have hap := apE_apL (J := J) hck hN
   have has := apL_small (J := J)
   have hbs : ∀ p ∈ bV (apL J), p.1.length ≤ 1000000 := fun p hp => by
    obtain ⟨s, -, rfl⟩ := List.mem_map.1 hp
    have := bl_len (s := s) (k := 12)
    simp
    omega
   have q41a := fun fB σ => apart41 (f := f) (fB := fB) (B := bV (apL J)) (σ := σ) hJ1 hl1 (by rw [bV_len]; omega) hbs
   have q42a := fun fB σ => apart42 (f := f) (fB := fB) (B := bV (apL J)) (σ := σ) hJ1 hl1 (by rw [bV_len]; omega) hbs
   rw [apV_ok hap] at q41a q42a
   have q41 := fun σ => apart41 (f := f) (fB := fB) (σ := σ) hJ1 hl1 (by omega : B.length ≤ 1000000) (fun p hp => by have := hb p hp; omega)
   have hle := ap_le hN hf1 hf2
   have hps := ap_pos hN (fun p h => (hp p h).1)
   have hbest : apE J B = 0 → apN J B ≤ (apL J).length := fun h => by
    have := ap_best h
    unfold apN
    rw [if_pos h]
    omega
   have hbl := bV_len (R := apL J)
   have hpb := lls_pure (B := bV (apL J))
   unfold apV at q41
   generalize apN J B = n1 at *
   generalize apE J B = e1 at *
   generalize bV (apL J) = A at *
   generalize hna : (apL J).length = na at *
   generalize hF : bl (few0 J) 12 = F at *
   refine ab_seq_k fun K5 h5 => ?_
   simp [w1, w2]
   refine callK_of (q29 _) ?_
   simp [w1, w2]
   refine h5 _ _ _ ?_
   clear h5 K5
   refine ab_seq_k fun K6 h6 => ?_
   simp [w1, w2]
   refine callK_of (q43 _) ?_
   simp [w1, w2]
   refine h6 _ _ _ ?_
   clear h6 K6
   refine ab_seq_k fun K7 h7 => ?_
   have hA12 : ¬ (12 : Int) < A.length := by omega
   refine ab_seq_k fun K8 h8 => ?_
   simp [w1, w2, hA12]
   refine callK_of (q27 _) ?_
   simp [w1, w2, hA12]
   refine h8 _ _ _ ?_
   clear h8 K8
   refine ab_cond_of rfl (fun h => by cases h) (fun _ => ?_)
   simp
   refine h7 _ _ _ ?_
   clear h7 K7
   refine ab_seq_k fun K9 h9 => ?_
   simp [w1, w2]
   refine callK_of (q41a _ _) ?_
   simp [w1, w2]
   refine h9 _ _ _ ?_
   clear h9 K9
   refine ab_seq_k fun K10 h10 => ?_
   simp [w1, w2]
   refine callK_of (q42a _ _) ?_
   simp [w1, w2]
   refine h10 _ _ _ ?_
   clear h10 K10
   refine ab_seq_k fun K11 h11 => ?_
   simp [w1, w2]
   refine callK_of (q41 _) ?_
   simp [w1, w2]
   refine h11 _ _ _ ?_
   clear h11 K11
   refine ab_seq_k fun K12 h12 => ?_
   have hpos : decide (0 < A.length) = decide (0 < F.length) := by
    rw [Bool.eq_iff_iff, decide_eq_true_eq, decide_eq_true_eq]
    exact ⟨fun h => by omega, fun h => by have := hps h; omega⟩
   have hAF : (A.length : Int) ≤ F.length := by omega
   have hfin : ∀ env, get env 4 = .b true → K12 (some 0) env [.row 0 [slJ J f]] := by
    intro env w4
    refine h12 _ _ _ ?_
    simp
    exact fin_of 1 (by simp [rs11, w4])
   by_cases he : e1 = 0
   ·have hbn : n1 ≤ A.length := by have := hbest he; omega
    simp [he, hAF, hpos, hbn]
    refine callK_of (wk _) ?_
    simp
    exact hfin _ rfl
   ·simp [he, hAF, hpos]
    refine callK_of (wk _) ?_
    simp
    exact hfin _ rfl
 clear h2 h3
 cases hg : fineB J with
 | false =>
  simp
  exact hK3 _ true rfl rfl rfl (by simp [hg])
 | true =>
  simp
  refine callK_of far40 ?_
  simp
  exact hK3 _ _ rfl rfl rfl (by rw [hg]; simp)
end Go.Ab
end
