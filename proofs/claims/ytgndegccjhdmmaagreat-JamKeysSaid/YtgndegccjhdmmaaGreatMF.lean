/- The fewest keys. -/
import Derived.Test.YtgndegccjhdmmaaGreatME
import Derived.Test.YtgndegccjhdmmaaGreatKP
set_option linter.unusedVariables false
set_option linter.unusedSimpArgs false
set_option maxHeartbeats 4000000
set_option maxRecDepth 100000
namespace Go.Ab
open Go Go.Proofs

/-! ### There are tight keys -/
theorem left_full {J : List Lg} : left J (2 ^ J.length - 1) = 0 := by
  apply Nat.eq_of_testBit_eq
  intro j
  rw [Nat.zero_testBit]
  by_cases hj : j < J.length
  · rw [left_bit hj]
    refine decide_eq_false ?_
    rw [wave_key hj (by rw [Nat.testBit_two_pow_sub_one]; simp [hj])]
    omega
  · exact Nat.testBit_lt_two_pow (Nat.lt_of_lt_of_le left_N (Nat.pow_le_pow_right (by omega) (by omega)))
theorem bl_sublen {s t : Nat} (h : ∀ j, s.testBit j = true → t.testBit j = true) : ∀ {k : Nat}, (bl s k).length ≤ (bl t k).length
  | 0 => Nat.le_refl _
  | k + 1 => by
    have ih := bl_sublen h (k := k)
    simp only [bl]
    cases hs : s.testBit k with
    | true => rw [h k hs]; simp; exact ih
    | false =>
      cases ht : t.testBit k <;> simp <;> omega
theorem bl_lt {s t : Nat} (h : ∀ j, s.testBit j = true → t.testBit j = true) : ∀ {k : Nat}, (∃ j, j < k ∧ s.testBit j = false ∧ t.testBit j = true) → (bl s k).length < (bl t k).length
  | 0, ⟨j, hj, _⟩ => by omega
  | k + 1, ⟨j, hj, h1, h2⟩ => by
    have hle := bl_sublen h (k := k)
    simp only [bl]
    by_cases hjk : j = k
    · subst hjk
      rw [h1, h2]
      simp; omega
    · have ih := bl_lt h (k := k) ⟨j, by omega, h1, h2⟩
      cases hs : s.testBit k with
      | true => rw [h k hs]; simp; exact ih
      | false =>
        cases ht : t.testBit k <;> simp <;> omega
theorem pc_less {s n : Nat} (hs : s < 2 ^ 16) (h : s.testBit n = true) : pc (less s (2 ^ n)) < pc s := by
  have hn : n < 16 := by
    false_or_by_contra
    have := Nat.testBit_lt_two_pow (Nat.lt_of_lt_of_le hs (Nat.pow_le_pow_right (n := 2) (by omega) (by omega : 16 ≤ n)))
    rw [this] at h; cases h
  refine bl_lt (fun j hj => ?_) ⟨n, hn, ?_, h⟩
  · rw [less_bit] at hj
    simp at hj
    exact hj.1
  · rw [less_bit, Nat.testBit_two_pow_self]
    simp
theorem tight_iff {J : List Lg} {s : Nat} (hs : s < 2 ^ 12) : tightB J s = true ↔ left J s = 0 ∧ ∀ n, s.testBit n = true → left J (less s (2 ^ n)) ≠ 0 := by
  unfold tightB looseTo
  rw [List.take_of_length_le bl_len, Bool.and_eq_true, decide_eq_true_eq, Bool.not_eq_true', List.any_eq_false]
  refine and_congr_right fun _ => ?_
  constructor
  · intro h n hn
    have hn12 : n < 12 := bit_small hs hn
    have := h n (bl_mem.2 ⟨n, hn12, rfl, hn⟩)
    simpa using this
  · intro h x hx
    obtain ⟨j, hj, rfl, hb⟩ := bl_mem.1 hx
    simpa using h j hb
theorem least_ex {p : Nat → Prop} {m : Nat → Nat} : ∀ (k : Nat), (∃ s, p s ∧ m s ≤ k) → ∃ s, p s ∧ ∀ t, p t → m s ≤ m t
  | 0, ⟨s, h1, h2⟩ => ⟨s, h1, fun t _ => by omega⟩
  | k + 1, ⟨s, h1, h2⟩ => by
    by_cases h : ∃ t, p t ∧ m t ≤ k
    · exact least_ex k h
    · refine ⟨s, h1, fun t ht => ?_⟩
      false_or_by_contra
      exact h ⟨t, ht, by omega⟩
theorem keys_ne {J : List Lg} (hN : J.length ≤ 12) : keysTo J (2 ^ J.length) ≠ [] := by
  have hpw := pow12 hN
  obtain ⟨s, ⟨h1, h2⟩, h3⟩ := least_ex (p := fun s => s < 2 ^ J.length ∧ left J s = 0) (m := pc) _ ⟨2 ^ J.length - 1, ⟨by omega, left_full⟩, Nat.le_refl _⟩
  have : s ∈ keysTo J (2 ^ J.length) := by
    unfold keysTo
    rw [List.mem_filter, List.mem_range]
    refine ⟨h1, (tight_iff (by omega)).2 ⟨h2, fun n hn hl => ?_⟩⟩
    have := h3 (less s (2 ^ n)) ⟨less_lt h1, hl⟩
    have := pc_less (by omega) hn
    omega
  intro e
  rw [e] at this
  cases this
theorem keys_lt {J : List Lg} (hN : J.length ≤ 12) : ∀ s ∈ keysTo J (2 ^ J.length), s < 2 ^ 12 := fun s hs => by
  have hpw := pow12 hN
  have := (List.mem_filter.1 hs).1
  rw [List.mem_range] at this
  omega

/-- The fewest keys, in their order. -/
def fewL (J : List Lg) : List Nat := (sortG setL (keysTo J (2 ^ J.length))).filter fun s => !decide (pc ((sortG setL (keysTo J (2 ^ J.length))).getD 0 0) < pc s)
theorem few107 {c id ver n x y : Nat} {cells : List V} {τ : List O} (hx : x < 65536) (hy : y < 65536) (h1 : τ[c]? = some (.row 0 [.s id ver 0 n 1])) (h2 : τ[id]? = some (.row ver cells)) (h3 : cells[0]? = some (u16V y)) (hn : n ≠ 0) : FSpec Tryz.prog 107 [u16V x, .p c 0 0] τ (.b (decide (pc y < pc x))) τ := by
  refine fn107.spec mixed noIt_ok ?_
  rw [ic107]
  obtain ⟨g1, g1'⟩ := List.getElem?_eq_some_iff.1 h1
  obtain ⟨g2, g2'⟩ := List.getElem?_eq_some_iff.1 h2
  obtain ⟨g3, g3'⟩ := List.getElem?_eq_some_iff.1 h3
  refine ab_seq_k fun K1 h1 => ?_
  simp
  refine h1 _ _ _ ?_
  clear h1 K1
  refine ab_seq_k fun K2 h2' => ?_
  simp [abDs_consU, drU, recheck_cons, recheck_nil, rcK, IS.dst]
  refine callK_of (many92 hx) ?_
  have hn' : 0 < n := by omega
  simp [abDs_consU, drU, recheck_cons, recheck_nil, rcK, IS.dst, h1, g1', h2, g2', h3, g3', hn']
  refine callK_of (many92 hy) ?_
  simp [abDs_consU, drU, recheck_cons, recheck_nil, rcK, IS.dst]
  refine h2' _ _ _ ?_
  simp
  refine fin_all ?_
  simp [rs107]
theorem few74 {J : List Lg} {f : Bool} {σ : List O} (hN : J.length ≤ 12) : FSpec Tryz.prog 74 [heapV J f] σ (.ss (us (fewL J)) (fewL J).length false) σ := by
  refine FSpec.frame (σ := σ) ?_ (by simp) (by simp)
  have hpw := pow12 hN
  have hkn := keys_ne hN
  have hkl := keysTo_len (J := J) (i := 2 ^ J.length)
  have hklt := keys_lt hN
  have h77 := fun σ => keys77 (J := J) (f := f) (σ := σ) hN
  unfold fewL
  generalize keysTo J (2 ^ J.length) = K at *
  have hSl : (sortG setL K).length = K.length := sortG_len (lt := setL)
  have hSp : (sortG setL K).Perm K := sortG_perm (lt := setL)
  have hSs : (sortG setL K).Pairwise (fun a b => setL b a = false) := sortG_sorted (lt := setL) (fun a b h => setL_asym h) (fun a b c h1 h2 => setL_ntr h1 h2)
  generalize hS : sortG setL K = S at *
  have hSn : S ≠ [] := fun e => hkn (List.length_eq_zero_iff.1 (by rw [← hSl, e]; rfl))
  have hSlt : ∀ s ∈ S, s < 2 ^ 12 := fun s hs => hklt s (hSp.mem_iff.1 hs)
  obtain ⟨y, S', hyS⟩ : ∃ y S', S = y :: S' := by
    cases S with
    | nil => exact absurd rfl hSn
    | cons y S' => exact ⟨y, S', rfl⟩
  have hy0 : S.getD 0 0 = y := by rw [hyS]; rfl
  have hS0 : S[0]? = some y := by rw [hyS]; rfl
  have hym : y ∈ S := List.mem_of_getElem? hS0
  clear hyS
  rw [hy0]
  clear hy0 S'
  generalize hFL : S.filter (fun s => !decide (pc y < pc s)) = FL
  refine FSpecQ.freeze (Q := fun v σ' => SlL σ' v (us FL)) ?_ (fun v σ' h => ⟨2, by rw [h.frz (by simp), us_len]⟩)
  refine qf74.specQ mixed noIt_ok ?_
  rw [q74]
  have hhp : (heapV J f).pure = true := by simp
  generalize heapV J f = H at *
  refine ab_seq_k fun K1 h1 => ?_
  simp
  refine h1 _ _ _ ?_
  clear h1 K1
  refine ab_seq_k fun K2 h2 => ?_
  simp
  refine callR_of (h77 _) ?_
  rintro v σ2 ⟨hv, -⟩
  simp [hv.one]
  refine h2 _ _ _ ?_
  clear h2 K2
  have hv2 := hv.app (g := [O.row 0 [v]])
  have hcell : (σ2 ++ [O.row 0 [v]])[σ2.length]? = some (.row 0 [v]) := by simp
  have hbid : idOf v ≠ some σ2.length := fun e => by have := (hv.id_ge e).2; omega
  generalize hc : σ2.length = c at *
  generalize σ2 ++ [O.row 0 [v]] = σ3 at *
  obtain ⟨hc1, hc'⟩ := List.getElem?_eq_some_iff.1 hcell
  have hDU : ∀ x ∈ us K, DU x := fun x hx => by
    obtain ⟨s, hs, rfl⟩ := List.mem_map.1 hx
    exact ⟨s, hklt s hs, rfl⟩
  have hso : (us S).Pairwise (fun x y => setL (unU y) (unU x) = false) := by
    unfold us
    rw [List.pairwise_map]
    refine hSs.imp fun {a b} h => ?_
    simpa [unU] using h
  obtain ⟨σ4, hsrt, hv4, -, hoth⟩ := srtU hv2 (by omega) hDU (hSp.map _) hso
  have hcell4 : σ4[c]? = some (.row 0 [v]) := by rw [hoth c hbid]; exact hcell
  obtain ⟨hd1, hd'⟩ := List.getElem?_eq_some_iff.1 hcell4
  refine ab_seq_k fun K2 h2 => ?_
  simp [hcell, hc']
  refine callK_of hsrt ?_
  simp
  refine h2 _ _ _ ?_
  clear h2 K2
  refine ab_seq_k fun K2 h2 => ?_
  simp [hcell4, hd']
  have hn0 : K.length ≠ 0 := fun h => hkn (List.length_eq_zero_iff.1 h)
  refine callR_of (delete80 (first := []) (cap := [.p c 0 0]) (p := fun s => decide (pc y < pc s)) hv4 hSn (by omega) ?_) ?_
  · intro x hx τ t1 t2
    rcases hv4.cases with ⟨e1, -, -⟩ | ⟨id, ver, -, hid, e2, hs, hlt⟩
    · exact absurd e1 hn0
    · obtain ⟨cells, a1, a2⟩ := t2 id ver (by rw [e2])
      have a3 := a2 (fun y' hy' => by rw [hS0] at hy'; cases hy'; simp)
      rw [us_get hS0] at a3
      have hyl := hSlt y hym
      have hxl := hSlt x hx
      refine few107 (c := c) (id := id) (ver := ver) (n := K.length) (x := x) (y := y) (by omega) (by omega) ?_ a1 a3 hn0
      rw [t1 c hbid, hcell4, e2]
  · rintro v' σ5 h5
    rw [hFL] at h5
    simp
    refine h2 _ _ _ ?_
    simp
    refine fin_Q ?_
    simp [rs74]
    exact h5
end Go.Ab
