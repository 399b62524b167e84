/- Tight locks: plain; of the program and of the reference. -/
import Derived.Test.YtgndegccjhdmmaaGreatMM
import Derived.Test.YtgndegccjhdmmaaGreatME
import Derived.Test.YtgndegccjhdmmaaGreatKQ
set_option linter.unusedVariables false
set_option linter.unusedSimpArgs false
set_option maxHeartbeats 4000000
set_option maxRecDepth 100000
namespace Go.Ab
open Go Go.Proofs

theorem sub_le {t s : Nat} (h : less t s = 0) : t ≤ s := by
  have : t &&& s = t := Nat.eq_of_testBit_eq fun j => by
    rw [Nat.testBit_and]
    cases hj : t.testBit j with
    | false => rfl
    | true => rw [less_zero.1 h j hj]; rfl
  rw [← this]
  exact Nat.and_le_right
theorem sub_anti {t s : Nat} (h1 : less t s = 0) (h2 : less s t = 0) : t = s := Nat.le_antisymm (sub_le h1) (sub_le h2)
theorem sub_trans {r t s : Nat} (h1 : less r t = 0) (h2 : less t s = 0) : less r s = 0 := less_zero.2 fun j hj => less_zero.1 h2 j (less_zero.1 h1 j hj)
/-- A lock of which no other one is a part. -/
def minLock (J : List Lg) (s : Nat) : Bool := lockB J s && !(List.range s).any fun t => lockB J t && decide (less t s = 0)
def locksTo (J : List Lg) (i : Nat) : List Nat := (List.range i).filter (minLock J)
theorem locksTo_succ {J : List Lg} {i : Nat} : locksTo J (i + 1) = if minLock J i then locksTo J i ++ [i] else locksTo J i := by
  unfold locksTo
  rw [List.range_succ, List.filter_append]
  cases h : minLock J i <;> simp [h]
theorem locksTo_len {J : List Lg} {i : Nat} : (locksTo J i).length ≤ i := by
  have := List.length_filter_le (minLock J) (List.range i)
  rw [List.length_range] at this
  exact this
theorem minLock_iff {J : List Lg} {s : Nat} : minLock J s = true ↔ lockB J s = true ∧ ∀ t, lockB J t = true → less t s = 0 → t = s := by
  unfold minLock
  rw [Bool.and_eq_true, Bool.not_eq_true', List.any_eq_false]
  refine and_congr_right fun _ => ?_
  constructor
  · intro h t h1 h2
    have hle := sub_le h2
    by_cases he : t = s
    · exact he
    · have := h t (List.mem_range.2 (by omega))
      rw [h1] at this
      simp [h2] at this
  · intro h t ht
    rw [List.mem_range] at ht
    intro h3
    rw [Bool.and_eq_true, decide_eq_true_eq] at h3
    have := h t h3.1 h3.2
    omega
theorem min_under {J : List Lg} {t : Nat} (h : lockB J t = true) : ∃ u, minLock J u = true ∧ less u t = 0 := by
  obtain ⟨u, ⟨h1, h2⟩, h3⟩ := least_ex (p := fun u => lockB J u = true ∧ less u t = 0) (m := id) t ⟨t, ⟨h, less_zero.2 fun _ hj => hj⟩, Nat.le_refl _⟩
  refine ⟨u, minLock_iff.2 ⟨h1, fun r hr hru => ?_⟩, h2⟩
  have h4 := sub_le hru
  have h5 := h3 r ⟨hr, sub_trans hru h2⟩
  simp at h5
  omega
theorem any_min {J : List Lg} {i : Nat} (hl : lockB J i = true) : (locksTo J i).any (fun x => decide (less x i = 0)) = !minLock J i := by
  rw [Bool.eq_iff_iff, List.any_eq_true, Bool.not_eq_true']
  constructor
  · rintro ⟨x, hx, h⟩
    rw [decide_eq_true_eq] at h
    obtain ⟨hx1, hx2⟩ := List.mem_filter.1 hx
    rw [List.mem_range] at hx1
    cases hm : minLock J i with
    | false => rfl
    | true =>
      have := (minLock_iff.1 hm).2 x (minLock_iff.1 hx2).1 h
      omega
  · intro hm
    unfold minLock at hm
    rw [hl, Bool.true_and, Bool.not_eq_false', List.any_eq_true] at hm
    obtain ⟨t, ht, h⟩ := hm
    rw [List.mem_range] at ht
    rw [Bool.and_eq_true, decide_eq_true_eq] at h
    obtain ⟨u, h1, h2⟩ := min_under h.1
    have := sub_le h2
    exact ⟨u, List.mem_filter.2 ⟨List.mem_range.2 (by omega), h1⟩, decide_eq_true (sub_trans h2 h.2)⟩
theorem locks_anti {J : List Lg} {i x y : Nat} (hx : x ∈ locksTo J i) (hy : y ∈ locksTo J i) (h : less y x = 0) : y = x :=
  (minLock_iff.1 (List.mem_filter.1 hx).2).2 y (minLock_iff.1 (List.mem_filter.1 hy).2).1 h

theorem inside112 {a b : Nat} {σ : List O} (ha : a < 65536) (hb : b < 65536) : FSpec Tryz.prog 112 [u16V a, u16V b] σ (.b (decide (less a b = 0))) σ := by
  refine FSpec.frame (σ := σ) ?_ rfl rfl
  refine fn112.spec0 mixed noIt_ok ?_
  rw [ic112]
  have e4 := andNot_nat (a := a) (b := b) ha hb
  refine ab_seq_k fun K1 h1 => ?_
  simp
  refine h1 _ _ _ ?_
  clear h1 K1
  refine ab_seq_k fun K2 h2 => ?_
  simp [u16V]
  rw [e4]
  refine h2 _ _ _ ?_
  simp
  refine fin_of 1 ?_
  simp [rs112]
theorem part111 {c a b : Nat} {τ : List O} (ha : a < 65536) (hb : b < 65536) (h1 : τ[c]? = some (.row 0 [u16V b])) : FSpec Tryz.prog 111 [u16V a, .p c 0 0] τ (.b (decide (less a b = 0))) τ := by
  refine fn111.spec mixed noIt_ok ?_
  rw [ic111]
  obtain ⟨g1, g1'⟩ := List.getElem?_eq_some_iff.1 h1
  refine ab_seq_k fun K1 h1 => ?_
  simp
  refine h1 _ _ _ ?_
  clear h1 K1
  refine ab_seq_k fun K2 h2' => ?_
  simp [h1, g1']
  refine callK_of (inside112 ha hb) ?_
  simp
  refine h2' _ _ _ ?_
  simp
  refine fin_all ?_
  simp [rs111]
/-- Of sets of which none is a part of another one, all are left. -/
theorem tight113 {L : List Nat} {v : V} {σ : List O} (hv : SlP σ v (us L)) (hl : L.length ≤ 60000) (hlt : ∀ s ∈ L, s < 65536) (hanti : ∀ (i k x y : Nat), L[i]? = some x → L[k]? = some y → less y x = 0 → k = i) :
    FSpecQ Tryz.prog 113 [v, .f (.func 112) [] []] σ (fun v' σ' => Gr σ.length 1 σ' v' L.length (us L)) := by
  refine fn113.specQ mixed noIt_ok ?_
  rw [ic113]
  refine ab_seq_k fun K1 h1 => ?_
  simp
  refine h1 _ _ _ ?_
  clear h1 K1
  refine ab_seq_k fun K2 h2 => ?_
  simp
  refine h2 _ _ _ ?_
  clear h2 K2
  refine ab_seq_k fun K3 h3 => ?_
  simp
  refine h3 _ _ _ ?_
  clear h3 K3
  refine ab_seq_k fun K4 h4 => ?_
  refine ab_seq_k fun K5 h5 => ?_
  simp
  refine hv.len ?_
  simp
  refine h5 _ _ _ ?_
  clear h5 K5
  refine ab_block_k fun K6 h6 => ?_
  refine ab_loop_k (fun m env σ' => ∃ (i : Nat) (w : V), i + m = L.length ∧ env = [(0, v), (1, .f (.func 112) [] []), (5, w), (10, v), (11, .i .i64 L.length), (12, .i .i64 i)] ∧ SlP σ' v (us L) ∧ Gr σ.length 1 σ' w i (us (L.take i)) ∧ σ.length ≤ σ'.length) L.length ⟨0, .ss [] 0 true, by omega, by simp, hv, by simpa [us] using Gr.nil, Nat.le_refl _⟩ ?_
  generalize hn0 : σ.length = n0 at *
  have hvid : ∀ id, idOf v = some id → id < n0 := by
    intro id hid
    rcases hv with ⟨f, rfl⟩ | ⟨id', ver, rest, rfl, hs⟩
    · cases hid
    · cases hid
      rw [← hn0]
      exact (List.getElem?_eq_some_iff.1 hs).1
  clear hv
  rintro m env σ' ⟨i, w, hi, rfl, hv, hw, hlen⟩ K7 h7
  rw [ic113_1]
  refine ab_seq_k fun K8 h8 => ?_
  simp
  refine h8 _ _ _ ?_
  clear h8 K8
  refine ab_seq_k fun K9 h9 => ?_
  refine ab_cond_of rfl (fun hc => ?_) (fun hc => ?_)
  · have hil : i < L.length := by simpa using hc
    have hx : L[i]? = some L[i] := List.getElem?_eq_getElem hil
    have hxl := hlt _ (List.getElem_mem hil)
    have htk : us (L.take (i + 1)) = us (L.take i) ++ [u16V L[i]] := by rw [List.take_add_one, hx, us_append]; rfl
    generalize L[i] = x at *
    have hu := us_get hx
    simp
    refine h9 _ _ _ ?_
    clear h9 K9
    refine ab_seq_k fun K10 h10 => ?_
    refine ab_block_k fun K11 h11 => ?_
    refine ab_seq_k fun K12 h12 => ?_
    simp
    refine hv.ixs hu fun a ha => ?_
    simp
    refine ha _ ?_
    simp
    refine h12 _ _ _ ?_
    clear h12 K12
    refine ab_seq_k fun K13 h13 => ?_
    refine ab_seq_k fun K14 h14 => ?_
    simp
    refine hv.len ?_
    simp
    refine h14 _ _ _ ?_
    clear h14 K14
    refine ab_block_k fun K15 h15 => ?_
    refine ab_loop_k (fun m2 env τ => ∃ k : Nat, k + m2 = L.length ∧ env = [(0, v), (1, .f (.func 112) [] []), (5, w), (6, .i .i64 i), (7, u16V x), (10, v), (11, .i .i64 L.length), (12, .i .i64 i), (17, v), (18, .i .i64 L.length), (19, .i .i64 k)] ∧ τ = σ') L.length ⟨0, by omega, by simp, rfl⟩ ?_
    rintro m2 env τ ⟨k, hk, rfl, rfl⟩ K16 h16
    rw [ic113_0]
    refine ab_seq_k fun K17 h17 => ?_
    simp
    refine h17 _ _ _ ?_
    clear h17 K17
    refine ab_seq_k fun K18 h18 => ?_
    refine ab_cond_of rfl (fun hc2 => ?_) (fun hc2 => ?_)
    · have hkl : k < L.length := by simpa using hc2
      have hy : L[k]? = some L[k] := List.getElem?_eq_getElem hkl
      have hyl := hlt _ (List.getElem_mem hkl)
      have han := hanti i k x L[k] hx hy
      generalize L[k] = y at *
      have huy := us_get hy
      simp
      refine h18 _ _ _ ?_
      clear h18 K18
      refine ab_seq_k fun K19 h19 => ?_
      refine ab_block_k fun K20 h20 => ?_
      refine ab_seq_k fun K21 h21 => ?_
      simp
      refine hv.ixs huy fun a ha => ?_
      simp
      refine ha _ ?_
      simp
      refine h21 _ _ _ ?_
      clear h21 K21
      refine ab_seq_k fun K22 h22 => ?_
      have hK22 : ∀ env, get env 0 = v → get env 1 = .f (.func 112) [] [] → get env 5 = w → get env 6 = .i .i64 i → get env 7 = u16V x → get env 10 = v → get env 11 = .i .i64 L.length → get env 12 = .i .i64 i → get env 17 = v → get env 18 = .i .i64 L.length → get env 19 = .i .i64 k → get env 32 = .b false → K22 (some 0) env τ := by
        intro env w0 w1 w5 w6 w7 w10 w11 w12 w17 w18 w19 w32
        refine h22 _ _ _ ?_
        refine ab_cond_of w32 (fun h => by cases h) (fun _ => ?_)
        simp
        refine h20 _ _ _ (h19 _ _ _ ?_)
        simp [w0, w1, w5, w6, w7, w10, w11, w12, w17, w18, w19, wrap64 (x := (k : Int) + 1) (by omega) (by omega)]
        exact h16 _ _ _ (again (m2 - 1) (by omega) ⟨k + 1, by omega, by simp, rfl⟩)
      clear h22
      by_cases hki : k = i
      · subst hki
        simp
        exact hK22 _ rfl rfl rfl rfl rfl rfl rfl rfl rfl rfl rfl rfl
      · have hne : ¬ (k : Int) = i := by omega
        have hl0 : ¬ less y x = 0 := fun h => hki (han h)
        simp [hne, hki]
        refine callK_of (inside112 hyl hxl) ?_
        simp [hl0]
        exact hK22 _ rfl rfl rfl rfl rfl rfl rfl rfl rfl rfl rfl rfl
    · simp
      refine h15 _ _ _ (h13 _ _ _ ?_)
      clear h13 h15 h16 h18
      simp [u16V]
      refine appG hw (by omega) (by omega) (by omega) rfl ?_
      intro w' σ3 hw' hgr
      have hv3 : SlP σ3 v (us L) := by
        rcases hv with ⟨f, e⟩ | ⟨id, ver, rest, e, hs⟩
        · exact .inl ⟨f, e⟩
        · refine .inr ⟨id, ver, rest, e, ?_⟩
          have hid := hvid id (by rw [e]; rfl)
          rw [hgr.keep id (List.getElem?_eq_some_iff.1 hs).1 (fun h => by have := (hw.id_ge h).1; omega)]
          exact hs
      have hlen3 : n0 ≤ σ3.length := by
        rcases hw'.cases with ⟨h1, -, -⟩ | ⟨id, ver, -, hid, -, -, hlt'⟩
        · omega
        · omega
      simp
      refine h11 _ _ _ (h10 _ _ _ ?_)
      simp [wrap64 (x := (i : Int) + 1) (by omega) (by omega)]
      exact h7 _ _ _ (again (m - 1) (by omega) ⟨i + 1, w', by omega, by simp, hv3, by rw [htk]; exact hw', hlen3⟩)
  · have hil : i = L.length := by simp at hc; omega
    subst hil
    rw [List.take_length] at hw
    simp
    refine h6 _ _ _ (h4 _ _ _ ?_)
    refine ab_seq_k fun K30 h30 => ?_
    simp
    refine h30 _ _ _ ?_
    clear h30 K30
    simp
    refine fin_Q ?_
    simp [rs113]
    exact hw
end Go.Ab
