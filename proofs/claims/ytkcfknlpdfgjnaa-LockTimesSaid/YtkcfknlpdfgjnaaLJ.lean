/- The reference's Orders. -/
import Derived.Test.YtkcfknlpdfgjnaaLI
set_option linter.unusedVariables false
set_option linter.unusedSimpArgs false
set_option maxHeartbeats 4000000
namespace Go.Ab
open Go Go.Proofs

theorem has61 {l : List Int} {f : Bool} {x : Int} (hl : (l.length : Int) < 1000000000) : FSpec Try.prog 61 [sl l f, .i .i64 x] [] (.b (l.contains x)) [] := by
  refine fn61.spec0 mixed noIt_ok ?_
  rw [ic61]
  refine ab_seq_k fun K1 h1 => ?_
  simp
  refine h1 _ _ _ ?_
  clear h1 K1
  refine ab_seq_k fun K2 h2 => ?_
  refine ab_seq_k fun K3 h3 => ?_
  simp
  refine h3 _ _ _ ?_
  clear h3 K3
  refine ab_block_k fun K4 h4 => ?_
  refine ab_loop_k (fun m env σ => ∃ i : Nat, i + m = l.length ∧ (∀ (j : Nat) (y : Int), j < i → l[j]? = some y → ¬ y = x) ∧ env = [(0, sl l f), (1, .i .i64 x), (5, .i .i64 i)]) l.length ⟨0, by omega, by simp, by simp⟩ ?_
  rintro m env σ ⟨i, hi, hpre, rfl⟩ K5 h5
  rw [ic61_0]
  refine ab_seq_k fun K6 h6 => ?_
  refine ab_seq_k fun K7 h7 => ?_
  simp
  refine h7 _ _ _ ?_
  clear h7 K7
  refine ab_cond_of rfl (fun hc => ?_) (fun hc => ?_)
  · have hil : i < l.length := by simpa using hc
    have hget : l[i]? = some l[i] := List.getElem?_eq_getElem hil
    generalize hy : l[i] = y at hget
    simp
    refine h6 _ _ _ ?_
    clear h6 K6
    refine ab_seq_k fun K8 h8 => ?_
    refine ab_block_k fun K9 h9 => ?_
    refine ab_seq_k fun K11 h11 => ?_
    simp [hil, hget, hy]
    refine h11 _ _ _ ?_
    refine ab_cond_of rfl (fun hc2 => ?_) (fun hc2 => ?_)
    · have he : y = x := by simpa using hc2
      have hm : x ∈ l := by rw [← he]; exact List.mem_of_getElem? hget
      refine ab_seq_k fun K12 h12 => ?_
      simp
      refine h12 _ _ _ ?_
      clear h12 K12
      simp
      exact fin_of 1 (by simp [rs61, hm])
    · have he : ¬ y = x := by simpa using hc2
      simp
      refine h9 _ _ _ ?_
      refine h8 _ _ _ ?_
      simp [wrap64 (x := (i : Int) + 1) (by omega) (by omega)]
      refine h5 _ _ _ (again (m - 1) (by omega) ⟨i + 1, by omega, fun j z hj hz => ?_, by simp⟩)
      by_cases hji : j = i
      · subst hji; rw [hget] at hz; cases hz; exact he
      · exact hpre j z (by omega) hz
  · have hil : i = l.length := by simp at hc; omega
    subst hil
    have hm : x ∉ l := by
      intro hx
      obtain ⟨j, hj⟩ := List.mem_iff_getElem?.1 hx
      exact hpre j x (List.getElem?_eq_some_iff.1 hj).1 hj rfl
    simp
    refine h4 _ _ _ ?_
    refine h2 _ _ _ ?_
    refine ab_seq_k fun K13 h13 => ?_
    simp
    refine h13 _ _ _ ?_
    clear h13 K13
    simp
    exact fin_of 1 (by simp [rs61, hm])

/-! ### Orders by levels -/
def ext (n : Nat) (b : List Int) (r : Nat) : List (List Int) := (List.range r).flatMap fun (i : Nat) => if (i : Int) ∈ b then [] else [b ++ [(i : Int)]]
theorem ext_succ {n : Nat} {b : List Int} {r : Nat} : ext n b (r + 1) = ext n b r ++ if (r : Int) ∈ b then [] else [b ++ [(r : Int)]] := by simp [ext, List.range_succ]
def levels (n : Nat) : Nat → List (List Int)
  | 0 => [[]]
  | j + 1 => (levels n j).flatMap fun b => ext n b n
/-- The first k of a level gone on with. -/
def lvTo (n j k : Nat) : List (List Int) := ((levels n j).take k).flatMap fun b => ext n b n
theorem lvTo_succ {n j k : Nat} {b : List Int} (h : (levels n j)[k]? = some b) : lvTo n j (k + 1) = lvTo n j k ++ ext n b n := by
  simp [lvTo, List.take_add_one, h]
theorem lvTo_all {n j : Nat} : lvTo n j (levels n j).length = levels n (j + 1) := by simp [lvTo, levels]
theorem ext_picks {n k : Nat} {b : List Int} : (ext n b n).flatMap (picks n k) = picks n (k + 1) b := by
  simp only [ext, picks, List.flatMap_assoc]
  congr 1
  funext i
  split <;> simp
theorem levels_picks {n : Nat} : ∀ {k j : Nat}, (levels n j).flatMap (picks n k) = (levels n (j + k)).flatMap (picks n 0)
  | 0, j => by rw [Nat.add_zero]
  | k + 1, j => by
    have h1 : (levels n j).flatMap (picks n (k + 1)) = (levels n (j + 1)).flatMap (picks n k) := by
      simp only [levels, List.flatMap_assoc]
      congr 1
      funext b
      exact ext_picks.symm
    rw [h1, levels_picks (k := k) (j := j + 1), show j + 1 + k = j + (k + 1) by omega]
theorem levels_orders {n : Nat} : levels n n = ordersL n := by
  have h := levels_picks (n := n) (k := n) (j := 0)
  rw [Nat.zero_add] at h
  have h0 : (levels n n).flatMap (picks n 0) = levels n n := by
    have : picks n 0 = fun b => [b] := by funext b; rfl
    rw [this]
    simp
  rw [h0] at h
  rw [← h]
  simp [levels, ordersL]
theorem ext_len {n : Nat} {b : List Int} {r : Nat} : (ext n b r).length ≤ r := by
  induction r with
  | zero => simp [ext]
  | succ r ih => rw [ext_succ, List.length_append]; split <;> simp <;> omega
theorem flat_len {n : Nat} : ∀ {L : List (List Int)}, (L.flatMap fun b => ext n b n).length ≤ L.length * n
  | [] => by simp
  | b :: L => by
    have := ext_len (n := n) (b := b) (r := n)
    have := flat_len (n := n) (L := L)
    rw [List.flatMap_cons, List.length_append, List.length_cons, Nat.succ_mul]
    omega
theorem levels_len {n : Nat} (hn : n ≤ 7) : ∀ {j : Nat}, (levels n j).length ≤ 7 ^ j
  | 0 => by simp [levels]
  | j + 1 => by
    have h1 := flat_len (n := n) (L := levels n j)
    have h2 := levels_len hn (j := j)
    have : (levels n j).length * n ≤ 7 ^ j * 7 := Nat.mul_le_mul h2 hn
    rw [Nat.pow_succ]
    show ((levels n j).flatMap fun b => ext n b n).length ≤ _
    omega
theorem levels_mem {n : Nat} : ∀ {j : Nat} {p : List Int}, p ∈ levels n j → p.length = j
  | 0, p, h => by simp [levels] at h; simp [h]
  | j + 1, p, h => by
    simp only [levels, List.mem_flatMap, ext] at h
    obtain ⟨b, hb, i, hi, hp⟩ := h
    have := levels_mem hb
    split at hp
    · cases hp
    · simp at hp; simp [hp, this]
theorem levels_ne {n : Nat} : ∀ {j : Nat}, j ≤ n → levels n j ≠ []
  | 0, _ => by simp [levels]
  | j + 1, h => by
    have ih := levels_ne (n := n) (j := j) (by omega)
    obtain ⟨b, hb⟩ := List.exists_mem_of_ne_nil _ ih
    obtain ⟨i, hi, hib⟩ := fresh_num (n := n) (b := b) (by rw [levels_mem hb]; omega)
    intro e
    have : b ++ [(i : Int)] ∈ levels n (j + 1) := by
      simp only [levels, List.mem_flatMap, ext]
      exact ⟨b, hb, i, List.mem_range.2 hi, by rw [if_neg hib]; simp⟩
    rw [e] at this
    cases this

/-! ### Slices of slices -/
def InnerIs (σ : List O) (v : V) (c : V) (p : List Int) : Prop := ∃ id ver, c = .s id ver 0 p.length 1 ∧ σ[id]? = some (.row ver (ints p)) ∧ idOf v ≠ some id
def Inner (σ : List O) (v : V) (cs : List V) (M : List (List Int)) : Prop := cs.length = M.length ∧ ∀ (j : Nat) (p : List Int) (c : V), M[j]? = some p → cs[j]? = some c → InnerIs σ v c p
theorem Inner.nil {σ : List O} {v : V} : Inner σ v [] [] := ⟨rfl, by simp⟩
theorem Inner.keep {σ σ' : List O} {v v' : V} {cs : List V} {M : List (List Int)} (h : Inner σ v cs M) (hk : ∀ id, id < σ.length → idOf v ≠ some id → σ'[id]? = σ[id]? ∧ idOf v' ≠ some id) : Inner σ' v' cs M := by
  refine ⟨h.1, fun j p c hp hc => ?_⟩
  obtain ⟨id, ver, h1, h2, h3⟩ := h.2 j p c hp hc
  have hlt := (List.getElem?_eq_some_iff.1 h2).1
  obtain ⟨g1, g2⟩ := hk id hlt h3
  exact ⟨id, ver, h1, by rw [g1]; exact h2, g2⟩
theorem Inner.snoc {σ : List O} {v c : V} {cs : List V} {M : List (List Int)} {p : List Int} (h : Inner σ v cs M) (hc : InnerIs σ v c p) : Inner σ v (cs ++ [c]) (M ++ [p]) := by
  refine ⟨by simp [h.1], fun j q d hq hd => ?_⟩
  by_cases hj : j < M.length
  · rw [List.getElem?_append_left hj] at hq
    rw [List.getElem?_append_left (by rw [h.1]; exact hj)] at hd
    exact h.2 j q d hq hd
  · rw [List.getElem?_append_right (by omega)] at hq
    rw [List.getElem?_append_right (by rw [h.1]; omega), h.1] at hd
    cases hjm : j - M.length with
    | zero =>
      rw [hjm] at hq hd
      simp at hq hd
      subst hq hd
      exact hc
    | succ m => rw [hjm] at hq; simp at hq
theorem Inner.frz {σ : List O} {v : V} {cs : List V} {M : List (List Int)} (h : Inner σ v cs M) : cs.map (Go.Ab.frz 2 0 σ) = M.map fun p => sl p false := by
  apply List.ext_getElem?
  intro j
  rw [List.getElem?_map, List.getElem?_map]
  by_cases hj : j < M.length
  · have hp : M[j]? = some M[j] := List.getElem?_eq_getElem hj
    have hc : cs[j]? = some (cs[j]'(by rw [h.1]; exact hj)) := List.getElem?_eq_getElem _
    obtain ⟨id, ver, h1, h2, h3⟩ := h.2 j _ _ hp hc
    rw [hp, hc, Option.map_some, Option.map_some, h1]
    congr 1
    exact frz_ints (k := 0) h2 (Nat.zero_le _)
  · rw [List.getElem?_eq_none (show M.length ≤ j by omega), List.getElem?_eq_none (show cs.length ≤ j by rw [h.1]; omega)]
    rfl
theorem frz_nest {σ : List O} {v : V} {cs : List V} {M : List (List Int)} (hv : Gr 0 1 σ v M.length cs) (h : Inner σ v cs M) (hne : M ≠ []) : Go.Ab.frz 3 0 σ v = .ss (M.map fun p => sl p false) M.length false := by
  rcases hv.cases with ⟨h1, -, -⟩ | ⟨id, ver, hn, hid, rfl, hs, hlt⟩
  · exact absurd (List.eq_nil_of_length_eq_zero h1) hne
  · rw [Go.Ab.frz]
    simp only [V.pure, Bool.false_eq_true, if_false, Nat.not_lt.2 (Nat.zero_le _), hs]
    have hcl : cs.length = M.length := h.1
    rw [if_pos ⟨trivial, by omega⟩]
    have e : List.take (M.length * 1) (List.drop 0 cs) = cs := by rw [List.drop_zero]; exact List.take_of_length_le (by omega)
    rw [e, h.frz]
/-- An append to nothing. -/
theorem app0 {k es bytes m : Nat} {σ : List O} {ys : List V} {C : Ct} (hk : k ≤ σ.length) (hb : m * bytes ≤ 140737488355328) (hy : ys.length = m * es)
    (hC : ∀ v' σ', Gr k es σ' v' m ys → Grew (.ss [] 0 true) v' σ σ' → C v' σ') : appTo es bytes (.ss [] 0 true) σ C ys m := by
  by_cases hm : m = 0
  · subst hm
    have : ys = [] := List.eq_nil_of_length_eq_zero (by omega)
    subst this
    simp
    exact hC _ _ Gr.nil ⟨Nat.le_refl _, fun j _ _ => rfl, .inl rfl⟩
  · refine appG (k := k) (es := es) Gr.nil hk (by rw [Nat.zero_add]; exact hb) hm hy ?_
    intro v' σ' h1 h2
    rw [Nat.zero_add, List.nil_append] at h1
    exact hC v' σ' h1 h2
end Go.Ab
