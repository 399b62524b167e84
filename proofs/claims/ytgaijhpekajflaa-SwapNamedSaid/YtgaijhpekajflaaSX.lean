/- Sorting numbers, as the library does. -/
import Derived.Test.YtgaijhpekajflaaSV
set_option linter.unusedVariables false
set_option linter.unusedSimpArgs false
set_option maxHeartbeats 4000000
set_option maxRecDepth 100000
namespace Go.Ab
open Go Go.Proofs

/-- Put before all of the end that come later; on the list turned round. -/
def insV (lt : Int → Int → Bool) (x : Int) : List Int → List Int
  | [] => [x]
  | y :: r => if lt x y = true then y :: insV lt x r else x :: y :: r
def insB (lt : Int → Int → Bool) (l : List Int) (x : Int) : List Int := (insV lt x l.reverse).reverse
def sortB (lt : Int → Int → Bool) (l : List Int) : List Int := l.foldl (insB lt) []
theorem insV_all {lt : Int → Int → Bool} {x : Int} : ∀ {B A : List Int}, (∀ y ∈ B, lt x y = true) → insV lt x (B ++ A) = B ++ insV lt x A
  | [], A, _ => rfl
  | y :: B, A, h => by
    rw [List.cons_append, insV, if_pos (h y (List.mem_cons_self ..)), insV_all (B := B) (fun z hz => h z (List.mem_cons_of_mem _ hz))]
    rfl
theorem insV_none {lt : Int → Int → Bool} {x : Int} : ∀ {B A : List Int}, (∀ y ∈ A, ¬ lt x y = true) → insV lt x (B ++ A) = insV lt x B ++ A
  | [], [], _ => rfl
  | [], y :: A, h => by
    show insV lt x (y :: A) = x :: y :: A
    rw [insV, if_neg (h y (List.mem_cons_self ..))]
  | y :: B, A, h => by
    rw [List.cons_append, insV, insV, insV_none (B := B) h]
    split <;> rfl
theorem insB_all {lt : Int → Int → Bool} {x : Int} {A B : List Int} (h : ∀ y ∈ B, lt x y = true) : insB lt (A ++ B) x = insB lt A x ++ B := by
  unfold insB
  rw [List.reverse_append, insV_all (fun y hy => h y (List.mem_reverse.1 hy)), List.reverse_append, List.reverse_reverse]
theorem insB_none {lt : Int → Int → Bool} {x : Int} {A B : List Int} (h : ∀ y ∈ A, ¬ lt x y = true) : insB lt (A ++ B) x = A ++ insB lt B x := by
  unfold insB
  rw [List.reverse_append, insV_none (fun y hy => h y (List.mem_reverse.1 hy)), List.reverse_append, List.reverse_reverse]
theorem insB_at {lt : Int → Int → Bool} {x : Int} {l : List Int} {j : Nat} (h1 : ∀ y ∈ l.drop j, lt x y = true) (h2 : ∀ y, 0 < j → l[j - 1]? = some y → ¬ lt x y = true) (hj : j ≤ l.length) : insB lt l x = l.take j ++ x :: l.drop j := by
  have e : l = l.take j ++ l.drop j := (List.take_append_drop j l).symm
  have : insB lt l x = insB lt (l.take j) x ++ l.drop j := by
    rw [← insB_all h1, List.take_append_drop]
  rw [this]
  cases j with
  | zero => simp [insB, insV]
  | succ j =>
    have hjl : j < l.length := by omega
    have hy : l[j]? = some l[j] := List.getElem?_eq_getElem hjl
    have hn := h2 l[j] (by omega) hy
    have ht : l.take (j + 1) = l.take j ++ [l[j]] := by rw [List.take_add_one, hy]; rfl
    rw [ht]
    unfold insB
    rw [List.reverse_append, List.reverse_singleton, List.singleton_append, insV, if_neg hn]
    simp
theorem insB_mem {lt : Int → Int → Bool} {x y : Int} {l : List Int} : y ∈ insB lt l x ↔ y = x ∨ y ∈ l := by
  have : ∀ l : List Int, y ∈ insV lt x l ↔ y = x ∨ y ∈ l := by
    intro l
    induction l with
    | nil => simp [insV]
    | cons z r ih =>
      rw [insV]
      split
      · rw [List.mem_cons, ih, List.mem_cons]
        constructor <;> intro h <;> rcases h with h | h | h <;> simp [h]
      · simp
  unfold insB
  rw [List.mem_reverse, this, List.mem_reverse]
theorem insB_len {lt : Int → Int → Bool} {x : Int} {l : List Int} : (insB lt l x).length = l.length + 1 := by
  have : ∀ l : List Int, (insV lt x l).length = l.length + 1 := by
    intro l
    induction l with
    | nil => rfl
    | cons z r ih => rw [insV]; split <;> simp [ih]
  unfold insB
  rw [List.length_reverse, this, List.length_reverse]
theorem sortB_snoc {lt : Int → Int → Bool} {l : List Int} {x : Int} : sortB lt (l ++ [x]) = insB lt (sortB lt l) x := by simp [sortB]
theorem sortB_len {lt : Int → Int → Bool} {l : List Int} : (sortB lt l).length = l.length := by
  have : ∀ (l acc : List Int), (l.foldl (insB lt) acc).length = acc.length + l.length := by
    intro l
    induction l with
    | nil => intro acc; rfl
    | cons x l ih => intro acc; rw [List.foldl_cons, ih, insB_len, List.length_cons]; omega
  rw [sortB, this]; simp
theorem sortB_mem {lt : Int → Int → Bool} {l : List Int} {y : Int} : y ∈ sortB lt l ↔ y ∈ l := by
  have : ∀ (l acc : List Int), y ∈ l.foldl (insB lt) acc ↔ y ∈ acc ∨ y ∈ l := by
    intro l
    induction l with
    | nil => intro acc; simp
    | cons x l ih =>
      intro acc
      rw [List.foldl_cons, ih, insB_mem, List.mem_cons]
      constructor
      · rintro ((h | h) | h)
        · exact .inr (.inl h)
        · exact .inl h
        · exact .inr (.inr h)
      · rintro (h | h | h)
        · exact .inl (.inr h)
        · exact .inl (.inl h)
        · exact .inr h
  rw [sortB, this]; simp

theorem insB_perm {lt : Int → Int → Bool} {x : Int} {l : List Int} : (insB lt l x).Perm (x :: l) := by
  have : ∀ l : List Int, (insV lt x l).Perm (x :: l) := by
    intro l
    induction l with
    | nil => exact List.Perm.refl _
    | cons z r ih =>
      rw [insV]
      split
      · exact (List.Perm.cons z ih).trans (List.Perm.swap ..)
      · exact List.Perm.refl _
  unfold insB
  exact (List.reverse_perm _).trans ((this _).trans (List.Perm.cons x (List.reverse_perm l)))
theorem sortB_perm {lt : Int → Int → Bool} {l : List Int} : (sortB lt l).Perm l := by
  refine snoc_ind (P := fun l => (sortB lt l).Perm l) (List.Perm.refl _) ?_ l
  intro l a ih
  rw [sortB_snoc]
  refine insB_perm.trans ?_
  refine (List.Perm.cons a ih).trans ?_
  exact (List.perm_append_singleton a l).symm
def ltI (a b : Int) : Bool := decide (a < b)
theorem insV_sorted {x : Int} : ∀ {l : List Int}, l.Pairwise (fun a b => b ≤ a) → (insV ltI x l).Pairwise (fun a b => b ≤ a)
  | [], _ => by simp [insV]
  | z :: r, h => by
    rw [insV]
    rw [List.pairwise_cons] at h
    split
    · rename_i hlt
      have hz : x < z := by simpa [ltI] using hlt
      rw [List.pairwise_cons]
      refine ⟨fun y hy => ?_, insV_sorted h.2⟩
      have : y ∈ insB ltI r.reverse x := by unfold insB; rw [List.reverse_reverse, List.mem_reverse]; exact hy
      rw [insB_mem, List.mem_reverse] at this
      rcases this with rfl | hr
      · omega
      · exact h.1 y hr
    · rename_i hlt
      have hz : z ≤ x := by simpa [ltI] using hlt
      rw [List.pairwise_cons]
      refine ⟨fun y hy => ?_, List.pairwise_cons.2 h⟩
      rcases List.mem_cons.1 hy with rfl | hr
      · exact hz
      · have := h.1 y hr; omega
theorem sortB_sorted {l : List Int} : (sortB ltI l).Pairwise (fun a b => a ≤ b) := by
  refine snoc_ind (P := fun l => (sortB ltI l).Pairwise (fun a b => a ≤ b)) (by simp [sortB]) ?_ l
  intro l a ih
  rw [sortB_snoc]
  unfold insB
  rw [List.pairwise_reverse]
  refine insV_sorted ?_
  rw [List.pairwise_reverse]
  exact ih

def atJ (l : List Int) (x : Int) (j : Nat) : List Int := l.take j ++ x :: l.drop j
theorem atJ_len {l : List Int} {x : Int} {j : Nat} (h : j ≤ l.length) : (atJ l x j).length = l.length + 1 := by simp [atJ]; omega
theorem atJ_end {l : List Int} {x : Int} : atJ l x l.length = l ++ [x] := by simp [atJ]
theorem atJ_get {l : List Int} {x : Int} {j : Nat} (h : j ≤ l.length) : (atJ l x j)[j]? = some x := by
  unfold atJ
  rw [List.getElem?_append_right (by rw [List.length_take]; omega)]
  simp [List.length_take, Nat.min_eq_left h]
theorem atJ_prev {l : List Int} {x : Int} {j : Nat} (h : j < l.length) : (atJ l x (j + 1))[j]? = l[j]? := by
  unfold atJ
  rw [List.getElem?_append_left (by rw [List.length_take]; omega)]
  simp
theorem atJ_swap {l : List Int} {x y : Int} {j : Nat} (h : l[j]? = some y) : ((atJ l x (j + 1)).set (j + 1) y).set j x = atJ l x j := by
  obtain ⟨hj, he⟩ := List.getElem?_eq_some_iff.1 h
  unfold atJ
  have h1 : l.take (j + 1) = l.take j ++ [y] := by rw [List.take_add_one, h]; rfl
  have h2 : l.drop j = y :: l.drop (j + 1) := by rw [← he]; exact (List.drop_eq_getElem_cons hj)
  have h3 : (l.take j).length = j := by rw [List.length_take]; omega
  rw [h1, h2, List.append_assoc, List.set_append_right (h := by omega), h3, show j + 1 - j = 1 by omega]
  simp only [List.singleton_append, List.set_cons_succ, List.set_cons_zero]
  rw [List.set_append_right (h := by omega), h3, Nat.sub_self]
  rfl


theorem nan110 {x : Int} : FSpec Try.prog 110 [.i .i64 x] [] (.b false) [] := by
  refine fn110.spec0 mixed noIt_ok ?_
  rw [ic110]
  refine ab_seq_k fun K1 h1 => ?_
  simp
  refine h1 _ _ _ ?_
  clear h1 K1
  refine ab_seq_k fun K2 h2 => ?_
  simp
  refine h2 _ _ _ ?_
  clear h2 K2
  simp
  exact fin_of 1 (by simp [rs110])
theorem less100 {x y : Int} : FSpec Try.prog 100 [.i .i64 x, .i .i64 y] [] (.b (decide (x < y))) [] := by
  refine fn100.spec0 mixed noIt_ok ?_
  rw [ic100]
  have hN := fun (x : Int) σ => FSpec.frame (σ := σ) (nan110 (x := x)) (by simp) rfl
  refine ab_seq_k fun K1 h1 => ?_
  simp
  refine h1 _ _ _ ?_
  clear h1 K1
  refine ab_seq_k fun K2 h2 => ?_
  simp
  refine callK_of (hN _ _) ?_
  simp
  refine h2 _ _ _ ?_
  clear h2 K2
  simp
  exact fin_of 1 (by simp [rs100])
theorem sort94 {l : List Int} {σ : List O} {id ver : Nat} (hid : σ[id]? = some (.row ver (ints l))) (hl : l.length ≤ 12) (hl1 : 1 ≤ l.length) :
    FSpec Try.prog 94 [.s id ver 0 l.length 1, .i .i64 0, .i .i64 l.length] σ (.tup []) (σ.set id (.row ver (ints (sortB ltI l)))) := by
  refine fn94.spec mixed noIt_ok ?_
  rw [ic94]
  have hil0 := (List.getElem?_eq_some_iff.1 hid).1
  have hs1 : ∀ c, (σ.set id c)[id]? = some c := fun c => List.getElem?_set_self hil0
  have hst : σ = σ.set id (.row ver (ints l)) := by
    apply List.ext_getElem?
    intro j
    by_cases hj : j = id
    · subst hj; rw [hs1, hid]
    · rw [List.getElem?_set_ne (fun e => hj e.symm)]
  refine ab_seq_k fun K1 h1 => ?_
  simp
  refine h1 _ _ _ ?_
  clear h1 K1
  refine ab_block_k fun K2 h2 => ?_
  refine ab_loop_k (fun m env σ' => ∃ i : Nat, i + m = l.length ∧ 1 ≤ i ∧ env = [(0, .s id ver 0 l.length 1), (1, .i .i64 0), (2, .i .i64 l.length), (6, .i .i64 i)] ∧ σ' = σ.set id (.row ver (ints (sortB ltI (l.take i) ++ l.drop i)))) (l.length - 1) ⟨1, by omega, by omega, by simp [wrap64 (x := 1) (by omega) (by omega)], ?_⟩ ?_
  · have : sortB ltI (l.take 1) ++ l.drop 1 = l := by
      cases l with
      | nil => rfl
      | cons x r => rfl
    rw [this]; exact hst
  rintro m env σ' ⟨i, hi, hi1, rfl, rfl⟩ K3 h3
  rw [ic94_1]
  refine ab_seq_k fun K4 h4 => ?_
  refine ab_seq_k fun K5 h5 => ?_
  simp
  refine h5 _ _ _ ?_
  clear h5 K5
  refine ab_cond_of rfl (fun hc => ?_) (fun hc => ?_)
  · have hil : i < l.length := by simpa using hc
    have hx : l[i]? = some l[i] := List.getElem?_eq_getElem hil
    have hdr : l.drop i = l[i] :: l.drop (i + 1) := List.drop_eq_getElem_cons hil
    have htk : l.take (i + 1) = l.take i ++ [l[i]] := by rw [List.take_add_one, hx]; rfl
    have hxm : l[i] ∈ l := List.getElem_mem hil
    have hSm : ∀ y ∈ sortB ltI (l.take i), y ∈ l := fun y hy => List.mem_of_mem_take (sortB_mem.1 hy)
    have hSl : (sortB ltI (l.take i)).length = i := by rw [sortB_len, List.length_take]; omega
    have hnext : sortB ltI (l.take (i + 1)) = insB ltI (sortB ltI (l.take i)) l[i] := by rw [htk, sortB_snoc]
    have hRl : (l.drop (i + 1)).length + i + 1 = l.length := by rw [List.length_drop]; omega
    rw [hdr]
    generalize hSS : sortB ltI (l.take i) = S at *
    generalize hRR : l.drop (i + 1) = R at *
    generalize l[i] = x at *
    have hst2 : S ++ x :: R = atJ S x i ++ R := by
      have := atJ_end (l := S) (x := x)
      rw [hSl] at this
      rw [this]; simp
    rw [hst2]
    simp
    refine h4 _ _ _ ?_
    clear h4 K4
    refine ab_seq_k fun K6 h6 => ?_
    refine ab_block_k fun K7 h7 => ?_
    refine ab_seq_k fun K8 h8 => ?_
    simp
    refine h8 _ _ _ ?_
    clear h8 K8
    refine ab_block_k fun K9 h9 => ?_
    refine ab_loop_k (fun m env σ' => ∃ j : Nat, j = m ∧ j ≤ i ∧ (∀ y ∈ S.drop j, ltI x y = true) ∧ env = [(0, .s id ver 0 l.length 1), (1, .i .i64 0), (2, .i .i64 l.length), (6, .i .i64 i), (7, .i .i64 j)] ∧ σ' = σ.set id (.row ver (ints (atJ S x j ++ R)))) i ⟨i, rfl, Nat.le_refl _, by rw [← hSl]; simp, by simp, by simp [ints]⟩ ?_
    rintro m' env' σ' ⟨j, rfl, hji, hpre, rfl, rfl⟩ K10 h10
    rw [ic94_0]
    have hfin : ∀ env, get env 0 = .s id ver 0 l.length 1 → get env 1 = .i .i64 0 → get env 2 = .i .i64 l.length → get env 6 = .i .i64 i → (∀ y, 0 < j → S[j - 1]? = some y → ¬ ltI x y = true) → K9 (some 0) env (σ.set id (.row ver (ints (atJ S x j ++ R)))) := by
      intro env w0 w1 w2 w6 hst
      refine h9 _ _ _ ?_
      refine h7 _ _ _ ?_
      refine h6 _ _ _ ?_
      simp [w0, w1, w2, w6, wrap64 (x := (i : Int) + 1) (by omega) (by omega)]
      refine h3 _ _ _ (again (m - 1) (by omega) ⟨i + 1, by omega, by omega, by simp, ?_⟩)
      rw [hnext, insB_at hpre hst (by omega), hRR]
      simp [atJ, ints]
    refine ab_seq_k fun K11 h11 => ?_
    refine ab_seq_k fun K12 h12 => ?_
    by_cases hj0 : j = 0
    · subst hj0
      simp [abDs_consU, drU, recheck_cons, recheck_nil, rcK, IS.dst]
      refine h12 _ _ _ ?_
      refine ab_cond_of rfl (fun hc => by cases hc) (fun hc => ?_)
      simp
      exact hfin _ rfl rfl rfl rfl (fun y h => by omega)
    obtain ⟨j, rfl⟩ : ∃ j', j = j' + 1 := ⟨j - 1, by omega⟩
    have hjl : j < S.length := by omega
    have hy : S[j]? = some S[j] := List.getElem?_eq_getElem hjl
    have hym : S[j] ∈ l := hSm _ (List.getElem_mem hjl)
    generalize hyy : S[j] = y at hy hym
    have hal : (atJ S x (j + 1)).length = i + 1 := by rw [← hSl]; exact atJ_len (by omega)
    have g1 : (atJ S x (j + 1) ++ R)[j + 1]? = some x := by rw [List.getElem?_append_left (by omega)]; exact atJ_get (by omega)
    have g2 : (atJ S x (j + 1) ++ R)[j]? = some y := by rw [List.getElem?_append_left (by omega), atJ_prev hjl, hy]
    have hsw : ((atJ S x (j + 1) ++ R).set (j + 1) y).set j x = atJ S x j ++ R := by
      rw [List.set_append_left (h := by omega), List.set_append_left (h := by rw [List.length_set]; omega), atJ_swap hy]
    have hgg := fun σ => FSpec.frame (σ := σ) (less100 (x := x) (y := y)) (by simp) rfl
    have hAl : (atJ S x (j + 1) ++ R).length = l.length := by rw [List.length_append]; omega
    generalize hA : atJ S x (j + 1) ++ R = A at *
    obtain ⟨g1l, g1'⟩ := List.getElem?_eq_some_iff.1 g1
    obtain ⟨g2l, g2'⟩ := List.getElem?_eq_some_iff.1 g2
    have hpos : 0 < (j : Int) + 1 := by omega
    have hji' : j + 1 < l.length := by omega
    have hji'' : j < l.length := by omega
    have hjz : (j : Int) + 1 < l.length := by omega
    have hjz' : (j : Int) < l.length := by omega
    have hj0' : (0 : Int) ≤ (j : Int) + 1 := by omega
    have hwj := wrap64 (x := (j : Int)) (by omega) (by omega)
    simp [abDs_consU, drU, recheck_cons, recheck_nil, rcK, IS.dst, hpos, g1, g1', g2, g2', hji', hji'', hjz, hjz', hwj, hj0', hs1]
    refine callK_of (hgg _) ?_
    simp [abDs_consU, drU, recheck_cons, recheck_nil, rcK, IS.dst]
    refine h12 _ _ _ ?_
    clear h12 K12
    refine ab_cond_of rfl (fun hc2 => ?_) (fun hc2 => ?_)
    · have hs : ltI x y = true := by simpa [ltI] using hc2
      simp
      refine h11 _ _ _ ?_
      clear h11 K11
      refine ab_seq_k fun K19 h19 => ?_
      refine ab_block_k fun K20 h20 => ?_
      simp [abDs_consU, drU, recheck_cons, recheck_nil, rcK, IS.dst, hpos, g1, g1', g2, g2', hji', hji'', hjz, hjz', hwj, hj0', hs1]
      refine ⟨by omega, by omega, ?_⟩
      rw [ints_set, ints_set, hsw]
      refine h20 _ _ _ ?_
      refine h19 _ _ _ ?_
      simp [wrap64 (x := (j : Int) + 1 - 1) (by omega) (by omega)]
      refine h10 _ _ _ (again j (by omega) ⟨j, rfl, by omega, fun z hz => ?_, ?_, by simp [ints]⟩)
      · rw [List.drop_eq_getElem_cons hjl, List.mem_cons] at hz
        rcases hz with rfl | hz
        · rw [hyy]; exact hs
        · exact hpre z hz
      · simp [hwj]
    · have hs : ¬ ltI x y = true := by simpa [ltI] using hc2
      simp
      refine hfin _ rfl rfl rfl rfl (fun z _ hz => ?_)
      simp only [Nat.add_sub_cancel] at hz
      rw [hy] at hz; cases hz
      exact hs
  · have hil : i = l.length := by simp at hc; omega
    subst hil
    rw [List.take_length, List.drop_length, List.append_nil]
    simp
    refine h2 _ _ _ ?_
    exact fin_all (by simp [rs94])


theorem sort94_nil {σ : List O} : FSpec Try.prog 94 [.ss [] 0 true, .i .i64 0, .i .i64 0] σ (.tup []) σ := by
  refine fn94.spec mixed noIt_ok ?_
  rw [ic94]
  refine ab_seq_k fun K1 h1 => ?_
  simp
  refine h1 _ _ _ ?_
  clear h1 K1
  refine ab_block_k fun K2 h2 => ?_
  refine ab_loop_k (fun m env σ' => env = [(0, .ss [] 0 true), (1, .i .i64 0), (2, .i .i64 0), (6, .i .i64 1)] ∧ σ' = σ) 0 ⟨by simp [wrap64 (x := 1) (by omega) (by omega)], rfl⟩ ?_
  rintro m env σ' ⟨rfl, rfl⟩ K3 h3
  rw [ic94_1]
  refine ab_seq_k fun K4 h4 => ?_
  refine ab_seq_k fun K5 h5 => ?_
  simp
  refine h5 _ _ _ ?_
  clear h5 K5
  refine ab_cond_of rfl (fun hc => by cases hc) (fun hc => ?_)
  simp
  refine h2 _ _ _ ?_
  exact fin_all (by simp [rs94])
theorem pdq91 {σ σ1 : List O} {v : V} {n : Nat} {x : Int} (hn : n ≤ 12) (h : FSpec Try.prog 94 [v, .i .i64 0, .i .i64 n] σ (.tup []) σ1) : FSpec Try.prog 91 [v, .i .i64 0, .i .i64 n, .i .i64 x] σ (.tup []) σ1 := by
  refine fn91.spec mixed noIt_ok ?_
  rw [ic91]
  refine ab_seq_k fun K1 h1 => ?_
  simp
  refine h1 _ _ _ ?_
  clear h1 K1
  refine ab_seq_k fun K2 h2 => ?_
  simp
  refine h2 _ _ _ ?_
  clear h2 K2
  refine ab_block_k fun K3 h3 => ?_
  refine ab_loop_k (fun m env σ' => env = [(0, v), (1, .i .i64 0), (2, .i .i64 n), (3, .i .i64 x), (8, .b true), (9, .b true)] ∧ σ' = σ) 0 ⟨by simp, rfl⟩ ?_
  rintro m env σ' ⟨rfl, rfl⟩ K4 h4
  rw [ic91_0]
  refine ab_block_k fun K5 h5 => ?_
  refine ab_seq_k fun K6 h6 => ?_
  simp [wrap64 (x := (n : Int)) (by omega) (by omega)]
  refine h6 _ _ _ ?_
  clear h6 K6
  refine ab_seq_k fun K7 h7 => ?_
  refine ab_seq_k fun K8 h8 => ?_
  simp
  refine h8 _ _ _ ?_
  clear h8 K8
  refine ab_cond_of rfl (fun _ => ?_) (fun h => by simp at h; omega)
  refine ab_seq_k fun K9 h9 => ?_
  simp
  refine callK_of (h) ?_
  simp
  refine h9 _ _ _ ?_
  clear h9 K9
  simp
  exact fin_all (by simp [rs91])
theorem sidx_of {s : ByteArray} {n : Nat} {b : UInt8} {K : V → Prop} (h : s[n]? = some b) (hK : K (.i .u8 b.toNat)) : sidxK (.str s) (.i .u8 (n : Int)) K := by
  refine ⟨by omega, ?_⟩
  rw [Int.toNat_natCast, h]
  exact hK
theorem len92 {n : Nat} (hn : n ≤ 12) : ∃ x : Int, FSpec Try.prog 92 [.i .u64 n] [] (.i .i64 x) [] := by
  have h104 : ∃ x : Int, FSpec Try.prog 104 [.i .u64 n] [] (.i .i64 x) [] := by
    refine ⟨((#[0, 1, 2, 2, 3, 3, 3, 3, 4, 4, 4, 4, 4] : Array Int)[n]?).getD 0, ?_⟩
    refine fn104.spec0 mixed noIt_ok ?_
    rw [ic104]
    have hw : IntKind.u8.wrap (n : Int) = n := by
      have : n = 0 ∨ n = 1 ∨ n = 2 ∨ n = 3 ∨ n = 4 ∨ n = 5 ∨ n = 6 ∨ n = 7 ∨ n = 8 ∨ n = 9 ∨ n = 10 ∨ n = 11 ∨ n = 12 := by omega
      rcases this with rfl | rfl | rfl | rfl | rfl | rfl | rfl | rfl | rfl | rfl | rfl | rfl | rfl <;> rfl
    refine ab_seq_k fun K1 h1 => ?_
    simp
    refine h1 _ _ _ ?_
    clear h1 K1
    refine ab_seq_k fun K2 h2 => ?_
    refine ab_seq_k fun K3 h3 => ?_
    simp
    refine h3 _ _ _ ?_
    clear h3 K3
    refine ab_cond_of rfl (fun h => by simp at h; omega) (fun _ => ?_)
    simp
    refine h2 _ _ _ ?_
    refine ab_seq_k fun K4 h4 => ?_
    refine ab_seq_k fun K5 h5 => ?_
    simp
    refine h5 _ _ _ ?_
    clear h5 K5
    refine ab_cond_of rfl (fun h => by simp at h; omega) (fun _ => ?_)
    simp
    refine h4 _ _ _ ?_
    refine ab_seq_k fun K6 h6 => ?_
    refine ab_seq_k fun K7 h7 => ?_
    simp
    refine h7 _ _ _ ?_
    clear h7 K7
    refine ab_cond_of rfl (fun h => by simp at h; omega) (fun _ => ?_)
    simp
    refine h6 _ _ _ ?_
    refine ab_seq_k fun K8 h8 => ?_
    simp [hw]
    have : n = 0 ∨ n = 1 ∨ n = 2 ∨ n = 3 ∨ n = 4 ∨ n = 5 ∨ n = 6 ∨ n = 7 ∨ n = 8 ∨ n = 9 ∨ n = 10 ∨ n = 11 ∨ n = 12 := by omega
    rcases this with rfl | rfl | rfl | rfl | rfl | rfl | rfl | rfl | rfl | rfl | rfl | rfl | rfl
    · refine sidx_of (n := 0) (b := 0) (by decide +kernel) ?_
      simp [wrap64 (x := 0) (by omega) (by omega)]
      refine h8 _ _ _ ?_
      simp
      exact fin_of 1 (by simp [rs104])
    · refine sidx_of (n := 1) (b := 1) (by decide +kernel) ?_
      simp [wrap64 (x := 1) (by omega) (by omega)]
      refine h8 _ _ _ ?_
      simp
      exact fin_of 1 (by simp [rs104])
    · refine sidx_of (n := 2) (b := 2) (by decide +kernel) ?_
      simp [wrap64 (x := 2) (by omega) (by omega)]
      refine h8 _ _ _ ?_
      simp
      exact fin_of 1 (by simp [rs104])
    · refine sidx_of (n := 3) (b := 2) (by decide +kernel) ?_
      simp [wrap64 (x := 2) (by omega) (by omega)]
      refine h8 _ _ _ ?_
      simp
      exact fin_of 1 (by simp [rs104])
    · refine sidx_of (n := 4) (b := 3) (by decide +kernel) ?_
      simp [wrap64 (x := 3) (by omega) (by omega)]
      refine h8 _ _ _ ?_
      simp
      exact fin_of 1 (by simp [rs104])
    · refine sidx_of (n := 5) (b := 3) (by decide +kernel) ?_
      simp [wrap64 (x := 3) (by omega) (by omega)]
      refine h8 _ _ _ ?_
      simp
      exact fin_of 1 (by simp [rs104])
    · refine sidx_of (n := 6) (b := 3) (by decide +kernel) ?_
      simp [wrap64 (x := 3) (by omega) (by omega)]
      refine h8 _ _ _ ?_
      simp
      exact fin_of 1 (by simp [rs104])
    · refine sidx_of (n := 7) (b := 3) (by decide +kernel) ?_
      simp [wrap64 (x := 3) (by omega) (by omega)]
      refine h8 _ _ _ ?_
      simp
      exact fin_of 1 (by simp [rs104])
    · refine sidx_of (n := 8) (b := 4) (by decide +kernel) ?_
      simp [wrap64 (x := 4) (by omega) (by omega)]
      refine h8 _ _ _ ?_
      simp
      exact fin_of 1 (by simp [rs104])
    · refine sidx_of (n := 9) (b := 4) (by decide +kernel) ?_
      simp [wrap64 (x := 4) (by omega) (by omega)]
      refine h8 _ _ _ ?_
      simp
      exact fin_of 1 (by simp [rs104])
    · refine sidx_of (n := 10) (b := 4) (by decide +kernel) ?_
      simp [wrap64 (x := 4) (by omega) (by omega)]
      refine h8 _ _ _ ?_
      simp
      exact fin_of 1 (by simp [rs104])
    · refine sidx_of (n := 11) (b := 4) (by decide +kernel) ?_
      simp [wrap64 (x := 4) (by omega) (by omega)]
      refine h8 _ _ _ ?_
      simp
      exact fin_of 1 (by simp [rs104])
    · refine sidx_of (n := 12) (b := 4) (by decide +kernel) ?_
      simp [wrap64 (x := 4) (by omega) (by omega)]
      refine h8 _ _ _ ?_
      simp
      exact fin_of 1 (by simp [rs104])
  obtain ⟨x, hx⟩ := h104
  have hF := fun σ => FSpec.frame (σ := σ) hx (by simp) rfl
  refine ⟨x, ?_⟩
  refine fn92.spec0 mixed noIt_ok ?_
  rw [ic92]
  refine ab_seq_k fun K1 h1 => ?_
  simp
  refine h1 _ _ _ ?_
  clear h1 K1
  refine ab_seq_k fun K2 h2 => ?_
  refine ab_cond_of rfl (fun h => by cases h) (fun _ => ?_)
  simp
  refine h2 _ _ _ ?_
  refine ab_seq_k fun K3 h3 => ?_
  simp
  refine callK_of (hF _) ?_
  simp
  refine h3 _ _ _ ?_
  clear h3 K3
  simp
  exact fin_of 1 (by simp [rs92])
theorem sort85 {σ σ1 : List O} {v : V} {n : Nat} (hn : n ≤ 12) (hv : ∀ C : Ct, C (.i .i64 n) σ → lenC v σ C) (h : FSpec Try.prog 94 [v, .i .i64 0, .i .i64 n] σ (.tup []) σ1) : FSpec Try.prog 85 [v] σ (.tup []) σ1 := by
  obtain ⟨x, hx⟩ := len92 hn
  have hF := fun σ => FSpec.frame (σ := σ) hx (by simp) rfl
  have hw : IntKind.u64.wrap (n : Int) = n := by
    have : n = 0 ∨ n = 1 ∨ n = 2 ∨ n = 3 ∨ n = 4 ∨ n = 5 ∨ n = 6 ∨ n = 7 ∨ n = 8 ∨ n = 9 ∨ n = 10 ∨ n = 11 ∨ n = 12 := by omega
    rcases this with rfl | rfl | rfl | rfl | rfl | rfl | rfl | rfl | rfl | rfl | rfl | rfl | rfl <;> rfl
  refine fn85.spec mixed noIt_ok ?_
  rw [ic85]
  refine ab_seq_k fun K1 h1 => ?_
  simp
  refine hv _ ?_
  simp
  refine h1 _ _ _ ?_
  simp [hw]
  refine callK_of (hF _) ?_
  simp
  refine callK_of (pdq91 hn h) ?_
  simp
  exact fin_all (by simp [rs85])
end Go.Ab
