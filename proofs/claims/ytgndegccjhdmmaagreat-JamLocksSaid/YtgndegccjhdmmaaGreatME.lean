/- IndexFunc, ContainsFunc, DeleteFunc on sets. -/
import Derived.Test.YtgndegccjhdmmaaGreatMA
set_option linter.unusedVariables false
set_option linter.unusedSimpArgs false
set_option maxHeartbeats 4000000
set_option maxRecDepth 100000
namespace Go.Ab
open Go Go.Proofs

/-- A slice with such elements, live or frozen. -/
def SlP (σ : List O) (v : V) (cs : List V) : Prop := (∃ f, v = .ss cs cs.length f) ∨ ∃ id ver rest, v = .s id ver 0 cs.length 1 ∧ σ[id]? = some (.row ver (cs ++ rest))
theorem Gr.slp {k n : Nat} {σ : List O} {v : V} {cs : List V} (h : Gr k 1 σ v n cs) : SlP σ v cs := by
  have hl := h.1
  rcases h.cases with ⟨rfl, rfl, rfl⟩ | ⟨id, ver, hn, hid, rfl, hs, hlt⟩
  · exact .inl ⟨true, rfl⟩
  · have : n = cs.length := by simpa using hl.symm
    exact .inr ⟨id, ver, [], by rw [this], by rw [List.append_nil]; exact hs⟩
theorem SlP.len {σ : List O} {v : V} {cs : List V} {C : Ct} (h : SlP σ v cs) (hC : C (.i .i64 cs.length) σ) : lenC v σ C := by
  rcases h with ⟨f, rfl⟩ | ⟨id, ver, rest, rfl, hs⟩
  · simpa using hC
  · simp only [lenC, lenK, liveV, hs]
    exact ⟨rfl, hC⟩
theorem SlP.ixs {σ : List O} {v : V} {cs : List V} {i : Nat} {x : V} {C : Ct} (h : SlP σ v cs) (hx : cs[i]? = some x) (hC : ∀ a, (∀ C', C' x σ → ld1C a σ C') → C a σ) : ixsC 1 v (.i .i64 i) σ C := by
  have hil := (List.getElem?_eq_some_iff.1 hx).1
  rcases h with ⟨f, rfl⟩ | ⟨id, ver, rest, rfl, hs⟩
  · simp [hil]
    refine hC _ fun C' h' => ?_
    obtain ⟨h1, h2⟩ := List.getElem?_eq_some_iff.1 hx
    simp [hx, h2]
    exact h'
  · obtain ⟨g1, g2⟩ := List.getElem?_eq_some_iff.1 hs
    simp [hs, g2, hil]
    refine hC _ fun C' h' => ?_
    have : (cs ++ rest)[i]? = some x := by rw [List.getElem?_append_left hil]; exact hx
    obtain ⟨h1, h2⟩ := List.getElem?_eq_some_iff.1 this
    simp [hs, g2, this]
    exact h'
theorem SlP.frz {σ : List O} {v : V} {cs : List V} (h : SlP σ v cs) (hp : pureL cs = true) : ∃ f, frz 2 0 σ v = .ss cs cs.length f := by
  rcases h with ⟨f, rfl⟩ | ⟨id, ver, rest, rfl, hs⟩
  · exact ⟨f, frz_pure (by simpa using hp)⟩
  · refine ⟨false, ?_⟩
    rw [Go.Ab.frz]
    simp only [V.pure, Bool.false_eq_true, if_false, Nat.not_lt_zero, hs]
    rw [if_pos ⟨trivial, by simp⟩]
    rw [List.drop_zero, Nat.mul_one, List.take_left, map_frz hp]
/-- A live slice with such elements at its head. -/
def SlL (σ : List O) (v : V) (cs : List V) : Prop := ∃ id ver rest, v = .s id ver 0 cs.length 1 ∧ σ[id]? = some (.row ver (cs ++ rest))
theorem SlL.slp {σ : List O} {v : V} {cs : List V} (h : SlL σ v cs) : SlP σ v cs := .inr h
theorem SlL.frz {σ : List O} {v : V} {cs : List V} (h : SlL σ v cs) (hp : pureL cs = true) : Go.Ab.frz 2 0 σ v = .ss cs cs.length false := by
  obtain ⟨id, ver, rest, rfl, hs⟩ := h
  rw [Go.Ab.frz]
  simp only [V.pure, Bool.false_eq_true, if_false, Nat.not_lt_zero, hs]
  rw [if_pos ⟨trivial, by simp⟩]
  rw [List.drop_zero, Nat.mul_one, List.take_left, map_frz hp]
theorem us_get {L : List Nat} {i s : Nat} (h : L[i]? = some s) : (us L)[i]? = some (u16V s) := by unfold us u16V; rw [List.getElem?_map, h]; rfl
theorem us_append {L M : List Nat} : us (L ++ M) = us L ++ us M := by simp [us]

theorem index109 {L : List Nat} {v : V} {fp : FuncId} {first cap : List V} {p : Nat → Bool} {σ : List O} (hv : SlP σ v (us L)) (hl : L.length ≤ 60000) (hp : ∀ x ∈ L, FSpec Tryz.prog fp (first ++ [u16V x] ++ cap) σ (.b (p x)) σ) :
    FSpec Tryz.prog 109 [v, .f (.func fp) first cap] σ (.i .i64 (match L.findIdx? p with | some i => (i : Int) | none => -1)) σ := by
  refine fn109.spec mixed noIt_ok ?_
  rw [ic109]
  refine ab_seq_k fun K1 h1 => ?_
  simp
  refine h1 _ _ _ ?_
  clear h1 K1
  refine ab_seq_k fun K2 h2 => ?_
  refine ab_seq_k fun K3 h3 => ?_
  simp
  refine hv.len ?_
  simp
  refine h3 _ _ _ ?_
  clear h3 K3
  refine ab_block_k fun K4 h4 => ?_
  refine ab_loop_k (fun m env σ' => ∃ i : Nat, i + m = L.length ∧ (∀ (j x : Nat), j < i → L[j]? = some x → p x = false) ∧ env = [(0, v), (1, .f (.func fp) first cap), (7, .i .i64 L.length), (8, .i .i64 i)] ∧ σ' = σ) L.length ⟨0, by omega, by simp, by simp, rfl⟩ ?_
  rintro m env σ' ⟨i, hi, hprev, rfl, rfl⟩ K5 h5
  rw [ic109_0]
  refine ab_seq_k fun K6 h6 => ?_
  simp
  refine h6 _ _ _ ?_
  clear h6 K6
  refine ab_seq_k fun K7 h7 => ?_
  refine ab_cond_of rfl (fun hc => ?_) (fun hc => ?_)
  · have hlt : i < L.length := by simpa using hc
    have hget : L[i]? = some L[i] := List.getElem?_eq_getElem hlt
    have hmem := List.getElem_mem hlt
    have hu := us_get hget
    generalize hx : L[i] = x at *
    simp
    refine h7 _ _ _ ?_
    clear h7 K7
    refine ab_seq_k fun K8 h8 => ?_
    refine ab_block_k fun K9 h9 => ?_
    refine ab_seq_k fun K10 h10 => ?_
    simp
    refine h10 _ _ _ ?_
    clear h10 K10
    refine ab_seq_k fun K11 h11 => ?_
    simp
    refine hv.ixs hu fun a ha => ?_
    simp
    refine ha _ ?_
    simp
    refine callK_of (by simpa using hp x hmem) ?_
    simp
    refine h11 _ _ _ ?_
    refine ab_cond_of rfl (fun hpx => ?_) (fun hpx => ?_)
    · refine ab_seq_k fun K12 h12 => ?_
      simp
      refine h12 _ _ _ ?_
      clear h12 K12
      have : L.findIdx? p = some i := by
        rw [List.findIdx?_eq_some_iff_getElem]
        exact ⟨hlt, by rw [hx]; exact hpx, fun j hj => by have := hprev j _ hj (List.getElem?_eq_getElem (by omega)); simpa using this⟩
      simp [this]
      exact fin_all (by simp [rs109])
    · simp
      refine h9 _ _ _ (h8 _ _ _ ?_)
      simp [wrap64 (x := (i : Int) + 1) (by omega) (by omega)]
      refine h5 _ _ _ (again (m - 1) (by omega) ⟨i + 1, by omega, fun j y hj hy => ?_, by simp, rfl⟩)
      by_cases hji : j = i
      · subst hji; rw [hget] at hy; cases hy; exact hpx
      · exact hprev j y (by omega) hy
  · have hlt : ¬ i < L.length := by simpa using hc
    simp
    refine h4 _ _ _ (h2 _ _ _ ?_)
    refine ab_seq_k fun K8 h8 => ?_
    simp
    refine h8 _ _ _ ?_
    clear h8 K8
    have : L.findIdx? p = none := by
      rw [List.findIdx?_eq_none_iff]
      intro x hx
      obtain ⟨j, hj⟩ := List.mem_iff_getElem?.1 hx
      have := (List.getElem?_eq_some_iff.1 hj).1
      exact hprev j x (by omega) hj
    simp [this]
    exact fin_all (by simp [rs109])
theorem contains110 {L : List Nat} {v : V} {fp : FuncId} {first cap : List V} {p : Nat → Bool} {σ : List O} (hv : SlP σ v (us L)) (hl : L.length ≤ 60000) (hp : ∀ x ∈ L, FSpec Tryz.prog fp (first ++ [u16V x] ++ cap) σ (.b (p x)) σ) :
    FSpec Tryz.prog 110 [v, .f (.func fp) first cap] σ (.b (L.any p)) σ := by
  refine fn110.spec mixed noIt_ok ?_
  rw [ic110]
  refine ab_seq_k fun K1 h1 => ?_
  simp
  refine h1 _ _ _ ?_
  clear h1 K1
  refine ab_seq_k fun K2 h2 => ?_
  simp
  refine callK_of (index109 hv hl hp) ?_
  simp
  refine h2 _ _ _ ?_
  clear h2 K2
  simp
  refine fin_all ?_
  simp [rs110]
  cases h : L.findIdx? p with
  | none =>
    rw [List.findIdx?_eq_none_iff] at h
    have : L.any p = false := by rw [List.any_eq_false]; intro x hx; simp [h x hx]
    simpa using this
  | some i =>
    rw [List.findIdx?_eq_some_iff_getElem] at h
    obtain ⟨h1, h2, -⟩ := h
    have : L.any p = true := by rw [List.any_eq_true]; exact ⟨_, List.getElem_mem h1, h2⟩
    simpa using this

theorem filter_none {L : List Nat} {p : Nat → Bool} (h : L.findIdx? p = none) : L.filter (fun x => !p x) = L := by
  rw [List.findIdx?_eq_none_iff] at h
  rw [List.filter_eq_self]
  intro x hx
  simp [h x hx]
theorem filter_pre {L : List Nat} {p : Nat → Bool} {i : Nat} (h : L.findIdx? p = some i) : i < L.length ∧ (L.take (i + 1)).filter (fun x => !p x) = L.take i := by
  rw [List.findIdx?_eq_some_iff_getElem] at h
  obtain ⟨h1, h2, h3⟩ := h
  refine ⟨h1, ?_⟩
  rw [List.take_add_one, List.getElem?_eq_getElem h1, List.filter_append]
  have : (L.take i).filter (fun x => !p x) = L.take i := by
    rw [List.filter_eq_self]
    intro x hx
    obtain ⟨j, hj⟩ := List.mem_iff_getElem?.1 hx
    have hji : j < i := by have := (List.getElem?_eq_some_iff.1 hj).1; rw [List.length_take] at this; omega
    have hx2 : L[j]? = some x := by rw [← hj, List.getElem?_take]; simp [hji]
    obtain ⟨h4, h5⟩ := List.getElem?_eq_some_iff.1 hx2
    rw [← h5]
    simpa using h3 j hji
  rw [this]
  simp [h2]
/-- What is left after those of a kind are taken out. -/
theorem delete80 {L : List Nat} {v : V} {k n : Nat} {fp : FuncId} {first cap : List V} {p : Nat → Bool} {σ : List O} (hv : Gr k 1 σ v n (us L)) (hne : L ≠ []) (hl : L.length ≤ 60000)
    (hp : ∀ x ∈ L, ∀ τ : List O, (∀ j, idOf v ≠ some j → τ[j]? = σ[j]?) → (∀ id ver, v = .s id ver 0 n 1 → ∃ cells, τ[id]? = some (.row ver cells) ∧ ((∀ y, L[0]? = some y → p y = false) → cells[0]? = (us L)[0]?)) → FSpec Tryz.prog fp (first ++ [u16V x] ++ cap) τ (.b (p x)) τ) :
    FSpecQ Tryz.prog 80 [v, .f (.func fp) first cap] σ (fun v' σ' => SlL σ' v' (us (L.filter fun x => !p x))) := by
  have hnl : n = L.length := by have := hv.1; simp at this; omega
  refine fn80.specQ mixed noIt_ok ?_
  rw [ic80]
  have hp0 : ∀ x ∈ L, FSpec Tryz.prog fp (first ++ [u16V x] ++ cap) σ (.b (p x)) σ := fun x hx => hp x hx σ (fun _ _ => rfl) fun id ver e => by
    rcases hv.cases with ⟨h1, h2, h3⟩ | ⟨id', ver', hn, hid, e2, hs, hlt⟩
    · rw [h3] at e; cases e
    · rw [e2] at e; cases e
      exact ⟨_, hs, fun _ => rfl⟩
  refine ab_seq_k fun K1 h1 => ?_
  simp
  refine h1 _ _ _ ?_
  clear h1 K1
  refine ab_seq_k fun K2 h2 => ?_
  simp
  refine callK_of (index109 hv.slp hl hp0) ?_
  simp
  refine h2 _ _ _ ?_
  clear h2 K2
  refine ab_seq_k fun K3 h3 => ?_
  refine ab_seq_k fun K4 h4 => ?_
  simp
  refine h4 _ _ _ ?_
  clear h4 K4
  cases hfi : L.findIdx? p with
  | none =>
    refine ab_cond_of rfl (fun _ => ?_) (fun h => by cases h)
    refine ab_seq_k fun K5 h5 => ?_
    simp
    refine h5 _ _ _ ?_
    clear h5 K5
    simp
    refine fin_Q ?_
    simp [rs80]
    rw [filter_none hfi]
    have hn0 : n ≠ 0 := fun h => hne (List.length_eq_zero_iff.1 (by omega))
    rcases hv.cases with ⟨h1, h2, h3⟩ | ⟨id, ver, -, hid, rfl, hs, hlt⟩
    · exact absurd h1 hn0
    · exact ⟨id, ver, [], by rw [us_len, hnl], by rw [List.append_nil]; exact hs⟩
  | some i =>
    obtain ⟨hil, hpre⟩ := filter_pre hfi
    have hni : ¬ (i : Int) = -1 := by omega
    refine ab_cond_of rfl (fun h => by simp [hni] at h) (fun _ => ?_)
    simp
    refine h3 _ _ _ ?_
    clear h3 K3
    rcases hv.cases with ⟨h1, h2, h3⟩ | ⟨id, ver, hn0, hid, rfl, hs, hlt⟩
    · omega
    have hfst : ∀ y, L[0]? = some y → p y = false → 0 < i := by
      intro y hy hpy
      rw [List.findIdx?_eq_some_iff_getElem] at hfi
      obtain ⟨f1, f2, -⟩ := hfi
      false_or_by_contra
      have hi0 : i = 0 := by omega
      subst hi0
      rw [List.getElem?_eq_getElem f1] at hy
      cases hy
      rw [f2] at hpy; cases hpy
    refine ab_seq_k fun K5 h5 => ?_
    refine ab_seq_k fun K6 h6 => ?_
    simp [wrap64 (x := (i : Int) + 1) (by omega) (by omega)]
    refine h6 _ _ _ ?_
    clear h6 K6
    refine ab_block_k fun K7 h7 => ?_
    refine ab_loop_k (fun m env σ' => ∃ (q j : Nat) (cells : List V), j + m = n ∧ q < j ∧ i ≤ q ∧ cells.length = n ∧ ((L.take j).filter fun x => !p x).length = q ∧ cells.take q = us ((L.take j).filter fun x => !p x) ∧ cells.drop j = us (L.drop j) ∧ (0 < i → cells[0]? = (us L)[0]?) ∧ env = [(0, .s id ver 0 n 1), (1, .f (.func fp) first cap), (5, .i .i64 q), (6, .i .i64 j)] ∧ σ' = σ.set id (.row ver cells)) (n - (i + 1)) ⟨i, i + 1, us L, by omega, by omega, Nat.le_refl _, by simp [hnl], by rw [hpre, List.length_take]; omega, by rw [hpre]; simp [us, List.map_take], by simp [us, List.map_drop], fun _ => rfl, by simp, set_same hs⟩ ?_
    rintro m env σ' ⟨q, j, cells, hm, hqj, hiq, hcl, hfl, htk, hdr, hc0, rfl, rfl⟩ K8 h8
    have hrow : (σ.set id (.row ver cells))[id]? = some (.row ver cells) := List.getElem?_set_self hlt
    have hoth : ∀ j, idOf (V.s id ver 0 n 1) ≠ some j → (σ.set id (.row ver cells))[j]? = σ[j]? := fun j hj => List.getElem?_set_ne (fun e => hj (by rw [← e]; rfl))
    obtain ⟨hrow1, hrow'⟩ := List.getElem?_eq_some_iff.1 hrow
    rw [ic80_0]
    refine ab_seq_k fun K9 h9 => ?_
    refine ab_seq_k fun K10 h10 => ?_
    simp [hrow, hrow', hlt]
    refine h10 _ _ _ ?_
    clear h10 K10
    refine ab_cond_of rfl (fun hc => ?_) (fun hc => ?_)
    · have hjn : j < n := by simpa using hc
      have hjL : j < L.length := by omega
      have hx : L[j]? = some L[j] := List.getElem?_eq_getElem hjL
      have hxm := List.getElem_mem hjL
      have hcj : cells[j]? = some (u16V L[j]) := by
        have h1 := congrArg (·[0]?) hdr
        simp only [List.getElem?_drop, Nat.add_zero] at h1
        rw [h1]
        exact us_get (by rw [List.getElem?_drop, Nat.add_zero]; exact hx)
      have htk1 : (L.take (j + 1)).filter (fun x => !p x) = (L.take j).filter (fun x => !p x) ++ (if p L[j] = true then [] else [L[j]]) := by
        rw [List.take_add_one, hx, List.filter_append]
        cases hpj : p L[j] <;> simp [hpj]
      have hdr1 : ∀ c : List V, c.drop j = us (L.drop j) → c.drop (j + 1) = us (L.drop (j + 1)) := fun c hc => by
        have := congrArg (List.drop 1) hc
        rw [List.drop_drop] at this
        simpa [us, List.map_drop, List.drop_drop] using this
      have hcall := hp L[j] hxm _ hoth fun id' ver' e => by cases e; exact ⟨cells, hrow, fun h => hc0 (by
        cases hL0 : L[0]? with
        | none => rw [List.getElem?_eq_none_iff] at hL0; omega
        | some y => exact hfst y hL0 (h y hL0))⟩
      generalize L[j] = x at *
      obtain ⟨hcj1, hcj'⟩ := List.getElem?_eq_some_iff.1 hcj
      simp
      refine h9 _ _ _ ?_
      clear h9 K9
      refine ab_seq_k fun K11 h11 => ?_
      refine ab_block_k fun K12 h12 => ?_
      refine ab_seq_k fun K13 h13 => ?_
      simp [hrow, hrow', hlt, hjn, hcj, hcj']
      refine h13 _ _ _ ?_
      clear h13 K13
      refine ab_seq_k fun K14 h14 => ?_
      simp
      refine callK_of (by simpa using hcall) ?_
      simp
      refine h14 _ _ _ ?_
      clear h14 K14
      cases hpx : p x with
      | false =>
        rw [hpx, if_neg (by simp)] at htk1
        refine ab_cond_of rfl (fun _ => ?_) (fun h => by cases h)
        have hqn : q < n := by omega
        have hone : cellsOf (u16V x) = some [u16V x] := rfl
        refine ab_seq_k fun K15 h15 => ?_
        simp [hrow, hrow', hlt, hqn, hone]
        refine ⟨by omega, h15 _ _ _ ?_⟩
        simp [wrap64 (x := (q : Int) + 1) (by omega) (by omega)]
        refine h12 _ _ _ (h11 _ _ _ ?_)
        simp [wrap64 (x := (j : Int) + 1) (by omega) (by omega)]
        refine h8 _ _ _ (again (m - 1) (by omega) ⟨q + 1, j + 1, cells.set q (u16V x), by omega, by omega, by omega, by simp [hcl], by rw [htk1]; simp [hfl], ?_, ?_, ?_, by simp, rfl⟩)
        · rw [htk1, us_append, ← htk, List.take_add_one, List.getElem?_set_self (by omega)]
          congr 1
          apply List.ext_getElem?
          intro t
          rw [List.getElem?_take, List.getElem?_take]
          split
          · rw [List.getElem?_set_ne (by omega)]
          · rfl
        · rw [List.drop_set_of_lt (by omega)]
          exact hdr1 cells hdr
        · intro hi0
          rw [List.getElem?_set_ne (by omega)]
          exact hc0 hi0
      | true =>
        rw [hpx, if_pos rfl, List.append_nil] at htk1
        refine ab_cond_of rfl (fun h => by cases h) (fun _ => ?_)
        simp
        refine h12 _ _ _ (h11 _ _ _ ?_)
        simp [wrap64 (x := (j : Int) + 1) (by omega) (by omega)]
        exact h8 _ _ _ (again (m - 1) (by omega) ⟨q, j + 1, cells, by omega, by omega, hiq, hcl, by rw [htk1]; exact hfl, by rw [htk1]; exact htk, hdr1 cells hdr, hc0, by simp, rfl⟩)
    · have hjn : j = n := by simp at hc; omega
      have hall : (L.take j).filter (fun x => !p x) = L.filter fun x => !p x := by rw [List.take_of_length_le (by omega)]
      rw [hall] at hfl htk
      simp
      refine h7 _ _ _ (h5 _ _ _ ?_)
      clear h5 h7 h8 h9
      refine ab_seq_k fun K20 h20 => ?_
      have hqn : q ≤ n := by omega
      simp [hrow, hrow', hlt, hqn]
      refine ⟨by omega, h20 _ _ _ ?_⟩
      clear h20 K20
      generalize rep (n - q) [V.i IntKind.u16 0] ++ List.drop (q + (rep (n - q) [V.i IntKind.u16 0]).length) cells = rest
      rw [htk]
      have hrz : (σ.set id (.row ver (us (L.filter fun x => !p x) ++ rest)))[id]? = some (.row ver (us (L.filter fun x => !p x) ++ rest)) := List.getElem?_set_self hlt
      generalize σ.set id (.row ver (us (L.filter fun x => !p x) ++ rest)) = τ at *
      obtain ⟨hrz1, hrz'⟩ := List.getElem?_eq_some_iff.1 hrz
      refine ab_seq_k fun K21 h21 => ?_
      simp [hrz, hrz', hqn]
      refine h21 _ _ _ ?_
      simp
      refine fin_Q ?_
      simp [rs80]
      refine ⟨id, ver, rest, ?_, hrz⟩
      rw [us_len, hfl]
end Go.Ab
