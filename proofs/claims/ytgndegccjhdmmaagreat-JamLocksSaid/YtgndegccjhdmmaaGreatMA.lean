import Derived.Test.YtgndegccjhdmmaaGreatKN
import Derived.Test.YtgndegccjhdmmaaGreatJQ
import Derived.Test.YtgndegccjhdmmaaGreatJY
/-! MA: made of MA MB MC -/
section
/- The tight keys. -/
set_option linter.unusedVariables false
set_option linter.unusedSimpArgs false
set_option maxHeartbeats 4000000
set_option maxRecDepth 100000
namespace Go.Ab
open Go Go.Proofs

/-- A contract by a relation, its result frozen. -/
theorem FSpecQ.freeze {P : Program} {f : FuncId} {args : List V} {Q : V → List O → Prop} {w : V} (h : FSpecQ P f args [] Q) (hq : ∀ v σ', Q v σ' → ∃ k, frz k 0 σ' v = w) : FSpec P f args [] w [] := by
  refine ⟨h.1, fun C cargs hR ha => (h.2 C cargs hR ha).mono ?_⟩
  rintro e w' ⟨C', cv, v, σ', hQ, rfl, rfl, h1, h2, h3⟩
  obtain ⟨k, hk⟩ := hq v σ' hQ
  have hR0 := frzS_sound (n := 0) h1 k (Nat.zero_le _)
  have e0 : frzS k 0 σ' = [] := by simp [frzS]
  rw [e0] at hR0
  refine ⟨C'.trunc 0, cv, rfl, rfl, hR0, trunc_ext h2 hR.wf (by have := hR.len; simp at this; omega), ?_⟩
  rw [← hk]
  exact frz_sound h1 k h3

def looseTo (J : List Lg) (s : Nat) (i : Nat) : Bool := ((bl s 12).take i).any fun n => decide (left J (less s (2 ^ n.toNat)) = 0)
def tightB (J : List Lg) (s : Nat) : Bool := decide (left J s = 0) && !looseTo J s 12
/-- All tight keys, up to a set. -/
def keysTo (J : List Lg) (i : Nat) : List Nat := (List.range i).filter (tightB J)
theorem keysTo_succ {J : List Lg} {i : Nat} : keysTo J (i + 1) = if tightB J i then keysTo J i ++ [i] else keysTo J i := by
  unfold keysTo
  rw [List.range_succ, List.filter_append]
  cases h : tightB J i <;> simp [h]
theorem keysTo_len {J : List Lg} {i : Nat} : (keysTo J i).length ≤ i := by
  have := List.length_filter_le (tightB J) (List.range i)
  rw [List.length_range] at this
  exact this
theorem looseTo_succ {J : List Lg} {s i : Nat} {x : Int} (h : (bl s 12)[i]? = some x) : looseTo J s (i + 1) = (looseTo J s i || decide (left J (less s (2 ^ x.toNat)) = 0)) := by
  unfold looseTo
  rw [List.take_add_one, h, List.any_append]
  simp
theorem less_lt {s b N : Nat} (h : s < 2 ^ N) : less s b < 2 ^ N := Nat.lt_of_le_of_lt less_le h

theorem keys77 {J : List Lg} {f : Bool} {σ : List O} (hN : J.length ≤ 12) : FSpecQ Tryz.prog 77 [heapV J f] σ (fun v σ' => Gr σ.length 1 σ' v (keysTo J (2 ^ J.length)).length (us (keysTo J (2 ^ J.length))) ∧ ∀ j, j < σ.length → σ'[j]? = σ[j]?) := by
  have hh : (cellsOf (heapV J f)) = some [heapV J f] := rfl
  have hst := fun σ s hs => stays67 (J := J) (f := f) (s := s) (σ := σ) hN hs
  have hat : ∀ σ, HeapAt J f (heapV J f) σ := fun σ => .inl ⟨_, _, rfl⟩
  have hpw := pow12 hN
  have hlb : ∀ s, s < 2 ^ J.length → s < 65536 := fun s h => by omega
  refine fn77.specQ mixed itT_ok ?_
  rw [ic77]
  generalize heapV J f = H at *
  refine ab_seq_k fun K1 h1 => ?_
  simp [hh]
  refine h1 _ _ _ ?_
  clear h1 K1
  refine ab_seq_k fun K2 h2 => ?_
  simp
  refine h2 _ _ _ ?_
  clear h2 K2
  refine ab_seq_k fun K3 h3 => ?_
  refine ab_seq_k fun K4 h4 => ?_
  simp
  refine callK_of (sets91 hh) ?_
  simp
  refine h4 _ _ _ ?_
  clear h4 K4
  refine ab_block_k fun K5 h5 => ?_
  generalize hL0 : σ.length = L0 at *
  generalize hW : 2 ^ J.length = W at *
  refine ⟨W, XSet, SetAt J f (L0 + 1 + 1) H, sets_it hN hW, fun i σ2 => (∀ j, j < L0 → σ2[j]? = σ[j]?) ∧ σ2[L0]? = some (.row 0 [H]) ∧ σ2[L0 + 1 + 1]? = some (.row 0 [H]) ∧ ∃ v, σ2[L0 + 1]? = some (.row 0 [v]) ∧ Gr (L0 + 3) 1 σ2 v (keysTo J i).length (us (keysTo J i)), fun i σ2 h => ⟨h.2.2.1, hat _⟩, ⟨?_, ?_, ?_, .ss [] 0 true, ?_, ?_⟩, ?_, ?_⟩
  · intro j hj
    rw [List.getElem?_append_left (by omega)]
  · rw [List.getElem?_append_right (by omega), hL0, Nat.sub_self]; rfl
  · rw [List.getElem?_append_right (by omega), hL0, show L0 + 1 + 1 - L0 = 2 by omega]; rfl
  · rw [List.getElem?_append_right (by omega), hL0, show L0 + 1 - L0 = 1 by omega]; rfl
  · simpa [keysTo, us] using Gr.nil
  · rintro i x σ2 g hi ⟨rfl, rfl⟩ ⟨qo, q0, q2, v, q1, hv⟩
    refine ⟨rfl, ?_⟩
    generalize hKR : roundK _ _ _ = KR
    rw [List.append_nil]
    simp
    rw [ic77_1]
    have hi16 := hlb i hi
    obtain ⟨hq0, q0'⟩ := List.getElem?_eq_some_iff.1 q0
    obtain ⟨hq1, q1'⟩ := List.getElem?_eq_some_iff.1 q1
    obtain ⟨hq2, -⟩ := List.getElem?_eq_some_iff.1 q2
    have hlen := bl_len (s := i) (k := 12)
    have hdone : ∀ σ3 v, (∀ j, j < L0 → σ3[j]? = σ[j]?) → σ3[L0]? = some (.row 0 [H]) → σ3[L0 + 1 + 1]? = some (.row 0 [H]) → σ3[L0 + 1]? = some (.row 0 [v]) → Gr (L0 + 3) 1 σ3 v (keysTo J (i + 1)).length (us (keysTo J (i + 1))) → ∀ env, KR (some 0) env σ3 := by
      intro σ3 v a0 a1 a2 a3 a4 env
      rw [← hKR]
      exact ⟨rfl, .inl ⟨a0, a1, a2, v, a3, a4⟩⟩
    clear hKR
    refine ab_block_k fun K16 h16 => ?_
    refine ab_seq_k fun K17 h17 => ?_
    simp
    refine h17 _ _ _ ?_
    clear h17 K17
    refine ab_seq_k fun K18 h18 => ?_
    refine ab_seq_k fun K19 h19 => ?_
    simp
    refine callK_of (list68 hi16) ?_
    simp
    refine h19 _ _ _ ?_
    clear h19 K19
    refine ab_block_k fun K20 h20 => ?_
    refine ab_loop_k (fun m env σ => ∃ n : Nat, n + m = (bl i 12).length ∧ env = [(1, .p L0 0 0), (3, .p (L0 + 1) 0 0), (4, .i .u16 i), (5, .b (looseTo J i n)), (12, sl (bl i 12) ((bl i 12).length == 0)), (13, .i .i64 (bl i 12).length), (14, .i .i64 n)] ∧ σ = σ2) (bl i 12).length ⟨0, by omega, by simp [looseTo], rfl⟩ ?_
    rintro m env σ3 ⟨n, hn, rfl, rfl⟩ K21 h21
    rw [ic77_0]
    refine ab_seq_k fun K22 h22 => ?_
    simp
    refine h22 _ _ _ ?_
    clear h22 K22
    refine ab_seq_k fun K23 h23 => ?_
    refine ab_cond_of rfl (fun hc => ?_) (fun hc => ?_)
    · have hnl : n < (bl i 12).length := by simpa using hc
      obtain ⟨b1, b2, bm⟩ := getD_get hnl
      have hls := looseTo_succ (J := J) b1
      obtain ⟨x, hx12, hxe, hxb⟩ := bl_mem.1 bm
      generalize (bl i 12).getD n 0 = y at *
      subst hxe
      rw [Int.toNat_natCast] at hls
      have hp2 : 2 ^ x < 65536 := by
        have : 2 ^ x < 2 ^ 16 := Nat.pow_lt_pow_right (by omega) (by omega)
        omega
      have e3 := shl_nat' (m := x) (by omega)
      have e4 := andNot_nat (a := i) (b := 2 ^ x) hi16 hp2
      have hll : less i (2 ^ x) < W := by rw [← hW]; exact less_lt (by rw [hW]; exact hi)
      have hlk := left_lt (J := J) (s := less i (2 ^ x)) hN
      generalize hpw2 : 2 ^ x = pw at *
      simp
      refine h23 _ _ _ ?_
      clear h23 K23
      refine ab_seq_k fun K24 h24 => ?_
      refine ab_block_k fun K25 h25 => ?_
      refine ab_seq_k fun K26 h26 => ?_
      simp [hnl, b1, b2]
      refine h26 _ _ _ ?_
      clear h26 K26
      have hend : ∀ env, get env 1 = .p L0 0 0 → get env 3 = .p (L0 + 1) 0 0 → get env 4 = .i .u16 i → get env 5 = .b (looseTo J i (n + 1)) → get env 12 = sl (bl i 12) ((bl i 12).length == 0) → get env 13 = .i .i64 (bl i 12).length → get env 14 = .i .i64 n → K25 (some 0) env σ3 := by
        intro env w1 w3 w4 w5 w12 w13 w14
        refine h25 _ _ _ (h24 _ _ _ ?_)
        simp [w1, w3, w4, w5, w12, w13, w14, wrap64 (x := (n : Int) + 1) (by omega) (by omega)]
        exact h21 _ _ _ (again (m - 1) (by omega) ⟨n + 1, by omega, by simp, rfl⟩)
      clear h24 h25 h21
      cases hlo : looseTo J i n with
      | true =>
        rw [hlo] at hls
        simp [abDs_consU, drU, recheck_cons, recheck_nil, rcK, IS.dst]
        exact hend _ rfl rfl rfl (by rw [hls]; rfl) rfl rfl rfl
      | false =>
        rw [hlo] at hls
        simp [abDs_consU, drU, recheck_cons, recheck_nil, rcK, IS.dst, e3, q0, q0']
        rw [e4]
        refine callK_of (hst _ _ hll) ?_
        simp [abDs_consU, drU, recheck_cons, recheck_nil, rcK, IS.dst]
        refine hend _ rfl rfl rfl ?_ rfl rfl rfl
        rw [hls]
        simp
    · have hnl : n = (bl i 12).length := by simp at hc; omega
      have hlast : looseTo J i n = looseTo J i 12 := by
        unfold looseTo
        rw [List.take_of_length_le (by omega), List.take_of_length_le (by omega)]
      rw [hlast]
      have htb : tightB J i = (decide (left J i = 0) && !looseTo J i 12) := rfl
      have hks := keysTo_succ (J := J) (i := i)
      have hkl := keysTo_len (J := J) (i := i)
      simp
      refine h20 _ _ _ (h18 _ _ _ ?_)
      clear h18 h20 h21 h23
      refine ab_seq_k fun K30 h30 => ?_
      simp [q0, q0']
      refine callK_of (hst _ _ hi) ?_
      have hK30 : ∀ env c, get env 3 = .p (L0 + 1) 0 0 → get env 4 = .i .u16 i → get env 36 = .b c → c = tightB J i → K30 (some 0) env σ3 := by
        intro env c w3 w4 w36 hcv
        refine h30 _ _ _ ?_
        clear h30
        cases c with
        | false =>
          rw [← hcv, if_neg (by simp)] at hks
          refine ab_cond_of w36 (fun h => by cases h) (fun _ => ?_)
          simp
          refine h16 _ _ _ ?_
          exact hdone σ3 v qo q0 q2 q1 (by rw [hks]; exact hv) _
        | true =>
          rw [← hcv, if_pos rfl] at hks
          refine ab_cond_of w36 (fun _ => ?_) (fun h => by cases h)
          simp [w3, w4, q1, q1']
          refine appG hv (by omega) (by omega) (by omega) rfl ?_
          intro v' σ' hv' hgr
          have hbid : ∀ j, j < L0 + 3 → idOf v ≠ some j := fun j hj e => by have := (hv.id_ge e).1; omega
          have r0 := hgr.get (hbid L0 (by omega)) q0
          have r1 := hgr.get (hbid (L0 + 1) (by omega)) q1
          have r2 := hgr.get (hbid (L0 + 1 + 1) (by omega)) q2
          obtain ⟨hr1, r1'⟩ := List.getElem?_eq_some_iff.1 r1
          simp [w3, w4, r1, r1', hv'.one]
          refine h16 _ _ _ ?_
          refine hdone _ v' ?_ ?_ ?_ (List.getElem?_set_self hr1) ?_ _
          · intro j hj
            rw [List.getElem?_set_ne (by omega), ← qo j hj]
            exact hgr.keep j (by omega) (hbid j (by omega))
          · rw [List.getElem?_set_ne (by omega)]; exact r0
          · rw [List.getElem?_set_ne (by omega)]; exact r2
          · have h1 := hv'.setlt (i := L0 + 1) (o := O.row 0 [v']) (by omega)
            rw [hks]
            simpa [us] using h1
      clear h30 hdone
      by_cases hl0 : left J i = 0
      · rw [hl0]
        simp
        refine hK30 _ _ rfl rfl rfl ?_
        rw [htb, hl0]
        simp
      · simp [hl0]
        refine hK30 _ false rfl rfl rfl ?_
        rw [htb]
        simp [hl0]
  · rintro σ2 ⟨qo, q0, q2, v, q1, hv⟩
    refine h5 _ _ _ (h3 _ _ _ ?_)
    obtain ⟨hq1, q1'⟩ := List.getElem?_eq_some_iff.1 q1
    refine ab_seq_k fun K30 h30 => ?_
    simp [q1, q1']
    refine h30 _ _ _ ?_
    clear h30 K30
    simp
    refine fin_Q ?_
    simp [rs77]
    exact ⟨hv.mono (by omega), qo⟩
theorem keys77F {J : List Lg} {f : Bool} {σ : List O} (hN : J.length ≤ 12) : FSpec Tryz.prog 77 [heapV J f] σ (.ss (us (keysTo J (2 ^ J.length))) (keysTo J (2 ^ J.length)).length ((keysTo J (2 ^ J.length)).length == 0)) σ := by
  refine FSpec.frame (σ := σ) ?_ (by simp) (by simp)
  exact (keys77 hN).freeze fun v σ' h => ⟨2, frz_G h.1 (by simp)⟩
end Go.Ab
end

section
/- Sorting as the reference does; lists of sets; put. -/
set_option linter.unusedVariables false
set_option linter.unusedSimpArgs false
set_option maxHeartbeats 4000000
set_option maxRecDepth 100000
namespace Go.Ab
open Go Go.Proofs

theorem snoc_ind {α : Type} {P : List α → Prop} (h0 : P []) (h1 : ∀ l a, P l → P (l ++ [a])) (l : List α) : P l := by
  have : ∀ m : List α, P m.reverse := by
    intro m
    induction m with
    | nil => exact h0
    | cons a m ih => rw [List.reverse_cons]; exact h1 _ _ ih
  have := this l.reverse
  rwa [List.reverse_reverse] at this
/-- Put before all of the end that come later; on the list turned round. -/
def insGV {α : Type} (lt : α → α → Bool) (x : α) : List α → List α
  | [] => [x]
  | y :: r => if lt x y = true then y :: insGV lt x r else x :: y :: r
def insG {α : Type} (lt : α → α → Bool) (l : List α) (x : α) : List α := (insGV lt x l.reverse).reverse
def sortG {α : Type} (lt : α → α → Bool) (l : List α) : List α := l.foldl (insG lt) []
theorem insGV_all {α : Type} {lt : α → α → Bool} {x : α} : ∀ {B A : List α}, (∀ y ∈ B, lt x y = true) → insGV lt x (B ++ A) = B ++ insGV lt x A
  | [], A, _ => rfl
  | y :: B, A, h => by
    rw [List.cons_append, insGV, if_pos (h y (List.mem_cons_self ..)), insGV_all (B := B) (fun z hz => h z (List.mem_cons_of_mem _ hz))]
    rfl
theorem insGV_none {α : Type} {lt : α → α → Bool} {x : α} : ∀ {B A : List α}, (∀ y ∈ A, ¬ lt x y = true) → insGV lt x (B ++ A) = insGV lt x B ++ A
  | [], [], _ => rfl
  | [], y :: A, h => by
    show insGV lt x (y :: A) = x :: y :: A
    rw [insGV, if_neg (h y (List.mem_cons_self ..))]
  | y :: B, A, h => by
    rw [List.cons_append, insGV, insGV, insGV_none (B := B) h]
    split <;> rfl
theorem insG_all {α : Type} {lt : α → α → Bool} {x : α} {A B : List α} (h : ∀ y ∈ B, lt x y = true) : insG lt (A ++ B) x = insG lt A x ++ B := by
  unfold insG
  rw [List.reverse_append, insGV_all (fun y hy => h y (List.mem_reverse.1 hy)), List.reverse_append, List.reverse_reverse]
theorem insG_none {α : Type} {lt : α → α → Bool} {x : α} {A B : List α} (h : ∀ y ∈ A, ¬ lt x y = true) : insG lt (A ++ B) x = A ++ insG lt B x := by
  unfold insG
  rw [List.reverse_append, insGV_none (fun y hy => h y (List.mem_reverse.1 hy)), List.reverse_append, List.reverse_reverse]
theorem insG_at {α : Type} {lt : α → α → Bool} {x : α} {l : List α} {j : Nat} (h1 : ∀ y ∈ l.drop j, lt x y = true) (h2 : ∀ y, 0 < j → l[j - 1]? = some y → ¬ lt x y = true) (hj : j ≤ l.length) : insG lt l x = l.take j ++ x :: l.drop j := by
  have e : l = l.take j ++ l.drop j := (List.take_append_drop j l).symm
  have : insG lt l x = insG lt (l.take j) x ++ l.drop j := by
    rw [← insG_all h1, List.take_append_drop]
  rw [this]
  cases j with
  | zero => simp [insG, insGV]
  | succ j =>
    have hjl : j < l.length := by omega
    have hy : l[j]? = some l[j] := List.getElem?_eq_getElem hjl
    have hn := h2 l[j] (by omega) hy
    have ht : l.take (j + 1) = l.take j ++ [l[j]] := by rw [List.take_add_one, hy]; rfl
    rw [ht]
    unfold insG
    rw [List.reverse_append, List.reverse_singleton, List.singleton_append, insGV, if_neg hn]
    simp
theorem insG_mem {α : Type} {lt : α → α → Bool} {x y : α} {l : List α} : y ∈ insG lt l x ↔ y = x ∨ y ∈ l := by
  have : ∀ l : List α, y ∈ insGV lt x l ↔ y = x ∨ y ∈ l := by
    intro l
    induction l with
    | nil => simp [insGV]
    | cons z r ih =>
      rw [insGV]
      split
      · rw [List.mem_cons, ih, List.mem_cons]
        constructor <;> intro h <;> rcases h with h | h | h <;> simp [h]
      · simp
  unfold insG
  rw [List.mem_reverse, this, List.mem_reverse]
theorem insG_len {α : Type} {lt : α → α → Bool} {x : α} {l : List α} : (insG lt l x).length = l.length + 1 := by
  have : ∀ l : List α, (insGV lt x l).length = l.length + 1 := by
    intro l
    induction l with
    | nil => rfl
    | cons z r ih => rw [insGV]; split <;> simp [ih]
  unfold insG
  rw [List.length_reverse, this, List.length_reverse]
theorem sortG_snoc {α : Type} {lt : α → α → Bool} {l : List α} {x : α} : sortG lt (l ++ [x]) = insG lt (sortG lt l) x := by simp [sortG]
theorem sortG_len {α : Type} {lt : α → α → Bool} {l : List α} : (sortG lt l).length = l.length := by
  have : ∀ (l acc : List α), (l.foldl (insG lt) acc).length = acc.length + l.length := by
    intro l
    induction l with
    | nil => intro acc; rfl
    | cons x l ih => intro acc; rw [List.foldl_cons, ih, insG_len, List.length_cons]; omega
  rw [sortG, this]; simp
theorem sortG_mem {α : Type} {lt : α → α → Bool} {l : List α} {y : α} : y ∈ sortG lt l ↔ y ∈ l := by
  have : ∀ (l acc : List α), y ∈ l.foldl (insG lt) acc ↔ y ∈ acc ∨ y ∈ l := by
    intro l
    induction l with
    | nil => intro acc; simp
    | cons x l ih =>
      intro acc
      rw [List.foldl_cons, ih, insG_mem, List.mem_cons]
      constructor
      · rintro ((h | h) | h)
        · exact .inr (.inl h)
        · exact .inl h
        · exact .inr (.inr h)
      · rintro (h | h | h)
        · exact .inl (.inr h)
        · exact .inl (.inl h)
        · exact .inr h
  rw [sortG, this]; simp

theorem insG_perm {α : Type} {lt : α → α → Bool} {x : α} {l : List α} : (insG lt l x).Perm (x :: l) := by
  have : ∀ l : List α, (insGV lt x l).Perm (x :: l) := by
    intro l
    induction l with
    | nil => exact List.Perm.refl _
    | cons z r ih =>
      rw [insGV]
      split
      · exact (List.Perm.cons z ih).trans (List.Perm.swap ..)
      · exact List.Perm.refl _
  unfold insG
  exact (List.reverse_perm _).trans ((this _).trans (List.Perm.cons x (List.reverse_perm l)))
theorem sortG_perm {α : Type} {lt : α → α → Bool} {l : List α} : (sortG lt l).Perm l := by
  refine snoc_ind (P := fun l => (sortG lt l).Perm l) (List.Perm.refl _) ?_ l
  intro l a ih
  rw [sortG_snoc]
  refine insG_perm.trans ?_
  refine (List.Perm.cons a ih).trans ?_
  exact (List.perm_append_singleton a l).symm
def atG {α : Type} (l : List α) (x : α) (j : Nat) : List α := l.take j ++ x :: l.drop j
theorem atG_len {α : Type} {l : List α} {x : α} {j : Nat} (h : j ≤ l.length) : (atG l x j).length = l.length + 1 := by simp [atG]; omega
theorem atG_end {α : Type} {l : List α} {x : α} : atG l x l.length = l ++ [x] := by simp [atG]
theorem atG_get {α : Type} {l : List α} {x : α} {j : Nat} (h : j ≤ l.length) : (atG l x j)[j]? = some x := by
  unfold atG
  rw [List.getElem?_append_right (by rw [List.length_take]; omega)]
  simp [List.length_take, Nat.min_eq_left h]
theorem atG_prev {α : Type} {l : List α} {x : α} {j : Nat} (h : j < l.length) : (atG l x (j + 1))[j]? = l[j]? := by
  unfold atG
  rw [List.getElem?_append_left (by rw [List.length_take]; omega)]
  simp
theorem atG_swap {α : Type} {l : List α} {x y : α} {j : Nat} (h : l[j]? = some y) : ((atG l x (j + 1)).set (j + 1) y).set j x = atG l x j := by
  obtain ⟨hj, he⟩ := List.getElem?_eq_some_iff.1 h
  unfold atG
  have h1 : l.take (j + 1) = l.take j ++ [y] := by rw [List.take_add_one, h]; rfl
  have h2 : l.drop j = y :: l.drop (j + 1) := by rw [← he]; exact (List.drop_eq_getElem_cons hj)
  have h3 : (l.take j).length = j := by rw [List.length_take]; omega
  rw [h1, h2, List.append_assoc, List.set_append_right (h := by omega), h3, show j + 1 - j = 1 by omega]
  simp only [List.singleton_append, List.set_cons_succ, List.set_cons_zero]
  rw [List.set_append_right (h := by omega), h3, Nat.sub_self]
  rfl


theorem insGV_sorted {α : Type} {lt : α → α → Bool} (has : ∀ a b, lt a b = true → lt b a = false) (hntr : ∀ a b c, lt a b = false → lt b c = false → lt a c = false) {x : α} : ∀ {l : List α}, l.Pairwise (fun a b => lt a b = false) → (insGV lt x l).Pairwise (fun a b => lt a b = false)
  | [], _ => by simp [insGV]
  | z :: r, h => by
    rw [insGV]
    rw [List.pairwise_cons] at h
    split
    · rename_i hlt
      rw [List.pairwise_cons]
      refine ⟨fun y hy => ?_, insGV_sorted has hntr h.2⟩
      have : y ∈ insG lt r.reverse x := by unfold insG; rw [List.reverse_reverse, List.mem_reverse]; exact hy
      rw [insG_mem, List.mem_reverse] at this
      rcases this with rfl | hr
      · exact has _ _ hlt
      · exact h.1 y hr
    · rename_i hlt
      have hz : lt x z = false := by simpa using hlt
      rw [List.pairwise_cons]
      refine ⟨fun y hy => ?_, List.pairwise_cons.2 h⟩
      rcases List.mem_cons.1 hy with rfl | hr
      · exact hz
      · exact hntr _ _ _ hz (h.1 y hr)
theorem sortG_sorted {α : Type} {lt : α → α → Bool} (has : ∀ a b, lt a b = true → lt b a = false) (hntr : ∀ a b c, lt a b = false → lt b c = false → lt a c = false) {l : List α} : (sortG lt l).Pairwise (fun a b => lt b a = false) := by
  refine snoc_ind (P := fun l => (sortG lt l).Pairwise (fun a b => lt b a = false)) (by simp [sortG]) ?_ l
  intro l a ih
  rw [sortG_snoc]
  unfold insG
  rw [List.pairwise_reverse]
  refine insGV_sorted has hntr ?_
  rw [List.pairwise_reverse]
  exact ih

def lexN (s t : Nat) : Bool := lexL (bl s 12) (bl t 12)
/-- Sets in the order of their lists. -/
def lexS (l : List Nat) : List Nat := sortG lexN l
theorem lexS_sorted {l : List Nat} : (lexS l).Pairwise (fun a b => lexN b a = false) := sortG_sorted (lt := lexN) (fun a b h => lexL_asym h) (fun a b c h1 h2 => lexL_ntr h1 h2)
theorem lexS_perm {l : List Nat} : (lexS l).Perm l := sortG_perm
theorem lexS_len {l : List Nat} : (lexS l).length = l.length := sortG_len
def lv (l : List Nat) : List V := l.map listV
@[simp] theorem lv_len {l : List Nat} : (lv l).length = l.length := by simp [lv]
theorem listV_pure {s : Nat} : (listV s).pure = true := by simp [listV]
theorem listV_one {s : Nat} : cellsOf (listV s) = some [listV s] := rfl
@[simp] theorem lv_pure {l : List Nat} : pureL (lv l) = true := by
  rw [pureL_all]
  intro x hx
  obtain ⟨s, -, rfl⟩ := List.mem_map.1 hx
  exact listV_pure
theorem lv_get {l : List Nat} {i s : Nat} (h : l[i]? = some s) : (lv l)[i]? = some (listV s) := by unfold lv; rw [List.getElem?_map, h]; rfl
theorem lv_set {l : List Nat} {i s : Nat} : (lv l).set i (listV s) = lv (l.set i s) := by simp [lv, List.map_set]
theorem lv_append {l m : List Nat} : lv (l ++ m) = lv l ++ lv m := by simp [lv]

theorem slcHM {es len : Nat} {σ : List O} {v : V} {C : Ct} {k n : Nat} {cs : List V} (h : Gr k es σ v n cs) (hC : C v σ) : slcC es v none (some (.i .i64 n)) (some (.i .i64 n)) σ C := by
  rcases h.cases with ⟨rfl, rfl, rfl⟩ | ⟨id, ver, hn, hid, rfl, hs, hlt⟩
  · simpa using hC
  · obtain ⟨h1, h2⟩ := List.getElem?_eq_some_iff.1 hs
    simp [hs, h2, liveV]
    exact hC
/-- Sets as lists, in their order. -/
theorem lists76 {L : List Nat} {f : Bool} {σ : List O} (hL : ∀ s ∈ L, s < 2 ^ 12) (hl : L.length ≤ 60000) : FSpec Tryz.prog 76 [.ss (us L) L.length f] σ (.ss (lv (lexS L)) L.length (L.length == 0)) σ := by
  refine FSpec.frame (σ := σ) ?_ (by simp) (by simp)
  refine fn76.spec0 mixed noIt_ok ?_
  rw [ic76]
  refine ab_seq_k fun K1 h1 => ?_
  simp
  refine h1 _ _ _ ?_
  clear h1 K1
  refine ab_seq_k fun K2 h2 => ?_
  simp
  refine h2 _ _ _ ?_
  clear h2 K2
  refine ab_seq_k fun K3 h3 => ?_
  refine ab_seq_k fun K4 h4 => ?_
  simp
  refine h4 _ _ _ ?_
  clear h4 K4
  refine ab_block_k fun K5 h5 => ?_
  refine ab_loop_k (fun m env σ => ∃ (i : Nat) (v : V), i + m = L.length ∧ env = [(3, v), (6, .ss (us L) L.length f), (7, .i .i64 L.length), (8, .i .i64 i)] ∧ Gr 0 1 σ v i (lv (L.take i))) L.length ⟨0, .ss [] 0 true, by omega, by simp, by simpa [lv] using Gr.nil⟩ ?_
  rintro m env σ ⟨i, v, hi, rfl, hv⟩ K6 h6
  rw [ic76_0]
  refine ab_seq_k fun K7 h7 => ?_
  simp
  refine h7 _ _ _ ?_
  clear h7 K7
  refine ab_seq_k fun K8 h8 => ?_
  refine ab_cond_of rfl (fun hc => ?_) (fun hc => ?_)
  · have hil : i < L.length := by simpa using hc
    have hx : L[i]? = some L[i] := List.getElem?_eq_getElem hil
    have hxm : L[i] ∈ L := List.getElem_mem hil
    have htk : lv (L.take (i + 1)) = lv (L.take i) ++ [listV L[i]] := by rw [List.take_add_one, hx, lv_append]; rfl
    generalize L[i] = s at *
    have hs := hL s hxm
    obtain ⟨hx1, hx'⟩ := List.getElem?_eq_some_iff.1 hx
    simp
    refine h8 _ _ _ ?_
    clear h8 K8
    refine ab_seq_k fun K9 h9 => ?_
    refine ab_block_k fun K10 h10 => ?_
    refine ab_seq_k fun K11 h11 => ?_
    simp [hil, hx, hx']
    refine h11 _ _ _ ?_
    clear h11 K11
    simp [abDs_consU, drU, recheck_cons, recheck_nil, rcK, IS.dst]
    refine lenG hv ?_
    simp [abDs_consU, drU, recheck_cons, recheck_nil, rcK, IS.dst]
    refine lenG hv ?_
    simp [abDs_consU, drU, recheck_cons, recheck_nil, rcK, IS.dst]
    refine slcHM (len := 0) hv ?_
    simp [abDs_consU, drU, recheck_cons, recheck_nil, rcK, IS.dst]
    refine callK_of (list68 (by omega)) ?_
    simp [abDs_consU, drU, recheck_cons, recheck_nil, rcK, IS.dst]
    refine appG hv (by omega) (by omega) (by omega) rfl ?_
    intro v' σ' hv' hgr
    simp [abDs_consU, drU, recheck_cons, recheck_nil, rcK, IS.dst]
    refine h10 _ _ _ (h9 _ _ _ ?_)
    simp [wrap64 (x := (i : Int) + 1) (by omega) (by omega)]
    exact h6 _ _ _ (again (m - 1) (by omega) ⟨i + 1, v', by omega, by simp, by rw [htk]; exact hv'⟩)
  · have hil : i = L.length := by simp at hc; omega
    subst hil
    rw [List.take_length] at hv
    simp
    refine h5 _ _ _ (h3 _ _ _ ?_)
    clear h3 h5 h6 h8
    have hD : ∀ x ∈ lv L, DL x := fun x hx => by
      obtain ⟨s, hs, rfl⟩ := List.mem_map.1 hx
      exact ⟨s, hL s hs, rfl⟩
    have hp : (lv (lexS L)).Perm (lv L) := lexS_perm.map _
    have hso : (lv (lexS L)).Pairwise (fun x y => lexL (unL y) (unL x) = false) := by
      unfold lv
      rw [List.pairwise_map]
      refine lexS_sorted.imp fun {a b} h => ?_
      simp only [listV, unL_list]
      exact h
    obtain ⟨σ', hsrt, hv', -, -⟩ := srtL hv hl hD hp hso
    refine ab_seq_k fun K20 h20 => ?_
    simp
    refine callK_of (hsrt) ?_
    simp
    refine h20 _ _ _ ?_
    clear h20 K20
    refine ab_seq_k fun K21 h21 => ?_
    simp
    refine h21 _ _ _ ?_
    clear h21 K21
    simp
    refine fin_of 2 ?_
    simp [-frz, rs76]
    rw [frz_G hv' (by simp)]

/-- A list before another one. -/
theorem before114 {a b : List Int} {fa fb : Bool} {σ : List O} (ha : (a.length : Int) < 1000000000) : FSpec Tryz.prog 114 [sl a fa, sl b fb] σ (.b (lexL a b)) σ := by
  refine FSpec.frame (σ := σ) ?_ (by simp) rfl
  refine fn114.spec0 mixed noIt_ok ?_
  rw [ic114]
  refine ab_seq_k fun K1 h1 => ?_
  simp
  refine h1 _ _ _ ?_
  clear h1 K1
  refine ab_seq_k fun K2 h2 => ?_
  refine ab_seq_k fun K3 h3 => ?_
  simp
  refine h3 _ _ _ ?_
  clear h3 K3
  refine ab_block_k fun K4 h4 => ?_
  refine ab_loop_k (fun m env σ => ∃ i : Nat, i + m = a.length ∧ i ≤ b.length ∧ lexL a b = lexL (a.drop i) (b.drop i) ∧ env = [(0, sl a fa), (1, sl b fb), (5, .i .i64 i)] ∧ σ = []) a.length ⟨0, by omega, by omega, by simp, by simp, rfl⟩ ?_
  rintro m env σ ⟨i, hi, hib, hd, rfl, rfl⟩ K5 h5
  rw [ic114_0]
  refine ab_seq_k fun K6 h6 => ?_
  refine ab_seq_k fun K7 h7 => ?_
  have hout : ∀ env, get env 0 = sl a fa → get env 1 = sl b fb → ¬ (i < a.length ∧ i < b.length) → K4 (some 0) env [] := by
    intro env w0 w1 hno
    refine h4 _ _ _ (h2 _ _ _ ?_)
    refine ab_seq_k fun K20 h20 => ?_
    simp [w0, w1]
    refine h20 _ _ _ ?_
    clear h20 K20
    simp
    refine fin_of 1 ?_
    have hv : lexL a b = decide (a.length < b.length) := by
      rw [hd]
      by_cases hia : i < a.length
      · have hbe : b.drop i = [] := List.drop_of_length_le (by omega)
        rw [hbe, List.drop_eq_getElem_cons hia]
        have : ¬ a.length < b.length := by omega
        simp [lexL, this]
      · have hae : a.drop i = [] := List.drop_of_length_le (by omega)
        rw [hae]
        by_cases hil : i < b.length
        · rw [List.drop_eq_getElem_cons hil]
          have : a.length < b.length := by omega
          simp [lexL, this]
        · have hbe : b.drop i = [] := List.drop_of_length_le (by omega)
          rw [hbe]
          have : ¬ a.length < b.length := by omega
          simp [lexL, this]
    simp [rs114, hv]
  by_cases hia : i < a.length
  · by_cases hil : i < b.length
    · obtain ⟨a1, a2, -⟩ := getD_get hia
      obtain ⟨b1, b2, -⟩ := getD_get hil
      rw [List.drop_eq_getElem_cons hia, List.drop_eq_getElem_cons hil, a2, b2] at hd
      generalize a.getD i 0 = x at *
      generalize b.getD i 0 = y at *
      simp only [lexL] at hd
      simp [hia, hil]
      refine h7 _ _ _ ?_
      clear h7
      refine ab_cond_of rfl (fun _ => ?_) (fun h => by cases h)
      simp
      refine h6 _ _ _ ?_
      refine ab_seq_k fun K8 h8 => ?_
      refine ab_block_k fun K9 h9 => ?_
      refine ab_seq_k fun K10 h10 => ?_
      simp [abDs_consU, drU, recheck_cons, recheck_nil, rcK, IS.dst, hia, hil, a2, b2]
      refine h10 _ _ _ ?_
      by_cases hxy : x = y
      · rw [if_neg (by omega), if_neg (by omega)] at hd
        refine ab_cond_of rfl (fun h => by simp [hxy] at h) (fun _ => ?_)
        simp
        refine h9 _ _ _ (h8 _ _ _ ?_)
        simp [wrap64 (x := (i : Int) + 1) (by omega) (by omega)]
        exact h5 _ _ _ (again (m - 1) (by omega) ⟨i + 1, by omega, by omega, hd, by simp, rfl⟩)
      · refine ab_cond_of rfl (fun _ => ?_) (fun h => by simp [hxy] at h)
        refine ab_seq_k fun K11 h11 => ?_
        simp [abDs_consU, drU, recheck_cons, recheck_nil, rcK, IS.dst, hia, hil, a2, b2]
        refine h11 _ _ _ ?_
        simp
        refine fin_of 1 ?_
        by_cases hlt : x < y
        · rw [if_pos hlt] at hd
          simp [rs114, hd, hlt]
        · rw [if_neg hlt, if_pos (by omega)] at hd
          simp [rs114, hd, hlt]
    · simp [hia, hil]
      refine h7 _ _ _ ?_
      refine ab_cond_of rfl (fun h => by cases h) (fun _ => ?_)
      simp
      exact hout _ rfl rfl (by omega)
  · simp [hia]
    refine h7 _ _ _ ?_
    refine ab_cond_of rfl (fun h => by cases h) (fun _ => ?_)
    simp
    exact hout _ rfl rfl (by omega)
end Go.Ab
end

section
/- The reference: put, which sets free a jam, the tight ones. Keys of both. -/
set_option linter.unusedVariables false
set_option linter.unusedSimpArgs false
set_option maxHeartbeats 4000000
set_option maxRecDepth 100000
namespace Go.Ab
open Go Go.Proofs

theorem put88 {S : List Nat} {x : Nat} {f : Bool} {σ : List O} (hS : S.length ≤ 60000) : FSpec Tryz.prog 88 [.ss (lv S) S.length f, listV x] σ (.ss (lv (insG lexN S x)) (S.length + 1) false) σ := by
  refine FSpec.frame (σ := σ) ?_ (by simp [listV]) (by simp)
  refine fn88.spec0 mixed noIt_ok ?_
  rw [ic88]
  refine ab_seq_k fun K1 h1 => ?_
  simp
  refine h1 _ _ _ ?_
  clear h1 K1
  refine ab_seq_k fun K2 h2 => ?_
  have hK2 : ∀ ver, K2 (some 0) [(5, .s 0 ver 0 (S.length + 1) 1)] [.row ver (lv (S ++ [x]))] := by
    intro ver
    refine h2 _ _ _ ?_
    clear h2
    refine ab_seq_k fun K3 h3 => ?_
    refine ab_seq_k fun K4 h4 => ?_
    simp [wrap64 (x := (S.length : Int)) (by omega) (by omega)]
    refine h4 _ _ _ ?_
    clear h4 K4
    refine ab_block_k fun K5 h5 => ?_
    refine ab_loop_k (fun m env σ => ∃ j : Nat, j = m ∧ j ≤ S.length ∧ (∀ y ∈ S.drop j, lexN x y = true) ∧ env = [(5, .s 0 ver 0 (S.length + 1) 1), (6, .i .i64 j)] ∧ σ = [.row ver (lv (atG S x j))]) S.length ⟨S.length, rfl, Nat.le_refl _, by simp, by simp, by simp [atG_end]⟩ ?_
    rintro m env σ ⟨j, rfl, hj, hpre, rfl, rfl⟩ K6 h6
    rw [ic88_0]
    refine ab_seq_k fun K7 h7 => ?_
    refine ab_seq_k fun K8 h8 => ?_
    have hfin : ∀ env, get env 5 = .s 0 ver 0 (S.length + 1) 1 → (∀ y, 0 < j → S[j - 1]? = some y → ¬ lexN x y = true) → K5 (some 0) env [.row ver (lv (atG S x j))] := by
      intro env w5 hst
      refine h5 _ _ _ (h3 _ _ _ ?_)
      refine ab_seq_k fun K20 h20 => ?_
      simp [w5]
      refine h20 _ _ _ ?_
      clear h20 K20
      simp
      refine fin_of 2 ?_
      have hG : Gr 0 1 [O.row ver (lv (atG S x j))] (.s 0 ver 0 (S.length + 1) 1) (S.length + 1) (lv (atG S x j)) := ⟨by simp [atG_len hj], .inr ⟨by omega, 0, ver, by omega, rfl, rfl⟩⟩
      have e : insG lexN S x = atG S x j := insG_at hpre hst hj
      simp [-frz, rs88]
      rw [frz_G hG (by simp), e]
      simp
    have hlen : (lv (atG S x j)).length = S.length + 1 := by simp [atG_len hj]
    by_cases hj0 : j = 0
    · subst hj0
      simp [abDs_consU, drU, recheck_cons, recheck_nil, rcK, IS.dst]
      refine h8 _ _ _ ?_
      refine ab_cond_of rfl (fun h => by cases h) (fun _ => ?_)
      simp
      exact hfin _ rfl (fun y h => by omega)
    obtain ⟨j, rfl⟩ : ∃ j', j = j' + 1 := ⟨j - 1, by omega⟩
    have hjl : j < S.length := by omega
    have hy : S[j]? = some S[j] := List.getElem?_eq_getElem hjl
    generalize S[j] = y at hy
    have g1 : (lv (atG S x (j + 1)))[j + 1]? = some (listV x) := lv_get (atG_get (by omega))
    have g2 : (lv (atG S x (j + 1)))[j]? = some (listV y) := lv_get (by rw [atG_prev hjl]; exact hy)
    have hsw : ((lv (atG S x (j + 1))).set (j + 1) (listV y)).set j (listV x) = lv (atG S x j) := by rw [lv_set, lv_set, atG_swap hy]
    have hl1 := bl_len (s := x) (k := 12)
    have hb := fun σ => before114 (a := bl x 12) (b := bl y 12) (fa := (bl x 12).length == 0) (fb := (bl y 12).length == 0) (σ := σ) (by omega)
    generalize hA : lv (atG S x (j + 1)) = A at *
    obtain ⟨g1l, g1'⟩ := List.getElem?_eq_some_iff.1 g1
    obtain ⟨g2l, g2'⟩ := List.getElem?_eq_some_iff.1 g2
    have z1 : (0 : Int) < (j : Int) + 1 := by omega
    have z2 : (0 : Int) ≤ (j : Int) + 1 := by omega
    have z3 : (j : Int) < (S.length : Int) + 1 := by omega
    have z4 : (j : Int) + 1 < (S.length : Int) + 1 := by omega
    have zj := wrap64 (x := (j : Int)) (by omega) (by omega)
    simp [abDs_consU, drU, recheck_cons, recheck_nil, rcK, IS.dst, z1, z2, z3, z4, zj, g1, g1', g2, g2', hjl]
    refine callK_of (hb _) ?_
    have hly : ¬ lexN x y = true → ∀ y', 0 < j + 1 → S[j + 1 - 1]? = some y' → ¬ lexN x y' = true := fun h y' _ hy' => by
      rw [Nat.add_sub_cancel, hy] at hy'; cases hy'; exact h
    cases hl : lexL (bl x 12) (bl y 12) with
    | true =>
      simp [abDs_consU, drU, recheck_cons, recheck_nil, rcK, IS.dst]
      refine h8 _ _ _ ?_
      clear h8
      refine ab_cond_of rfl (fun _ => ?_) (fun h => by cases h)
      simp
      refine h7 _ _ _ ?_
      refine ab_seq_k fun K9 h9 => ?_
      refine ab_block_k fun K10 h10 => ?_
      simp [abDs_consU, drU, recheck_cons, recheck_nil, rcK, IS.dst, z1, z2, z3, z4, zj, g1, g1', g2, g2', hjl, listV_one]
      rw [hsw]
      refine ⟨by omega, by omega, ?_⟩
      refine h10 _ _ _ (h9 _ _ _ ?_)
      simp [zj]
      refine h6 _ _ _ (again j (by omega) ⟨j, rfl, by omega, fun z hz => ?_, by simp [zj], rfl⟩)
      rw [List.drop_eq_getElem_cons hjl, List.mem_cons] at hz
      rcases hz with rfl | hz
      · have e : S[j] = y := by
          have := List.getElem?_eq_getElem hjl
          rw [hy] at this
          exact (Option.some.inj this).symm
        rw [e]; exact hl
      · exact hpre z hz
    | false =>
      simp [abDs_consU, drU, recheck_cons, recheck_nil, rcK, IS.dst]
      refine h8 _ _ _ ?_
      refine ab_cond_of rfl (fun h => by cases h) (fun _ => ?_)
      simp
      exact hfin _ rfl (hly (by unfold lexN; rw [hl]; simp))
  clear h2
  simp
  by_cases hS0 : S = []
  · subst hS0
    simp [lv, listV_one] at hK2 ⊢
    exact hK2 0
  · have hne : S.length ≠ 0 := fun h => hS0 (List.length_eq_zero_iff.1 h)
    simp [hS0, listV_one]
    refine ⟨by omega, by omega, ?_⟩
    have := hK2 1
    rw [lv_append] at this
    exact this
theorem bl_sublen {s t : Nat} (h : ∀ j, s.testBit j = true → t.testBit j = true) : ∀ {k : Nat}, (bl s k).length ≤ (bl t k).length
  | 0 => Nat.le_refl _
  | k + 1 => by
    have ih := bl_sublen h (k := k)
    simp only [bl]
    cases hs : s.testBit k with
    | true => rw [h k hs]; simp; exact ih
    | false =>
      cases ht : t.testBit k <;> simp <;> omega
theorem bl_lt {s t : Nat} (h : ∀ j, s.testBit j = true → t.testBit j = true) : ∀ {k : Nat}, (∃ j, j < k ∧ s.testBit j = false ∧ t.testBit j = true) → (bl s k).length < (bl t k).length
  | 0, ⟨j, hj, _⟩ => by omega
  | k + 1, ⟨j, hj, h1, h2⟩ => by
    have hle := bl_sublen h (k := k)
    simp only [bl]
    by_cases hjk : j = k
    · subst hjk
      rw [h1, h2]
      simp; omega
    · have ih := bl_lt h (k := k) ⟨j, by omega, h1, h2⟩
      cases hs : s.testBit k with
      | true => rw [h k hs]; simp; exact ih
      | false =>
        cases ht : t.testBit k <;> simp <;> omega
theorem least_ex {p : Nat → Prop} {m : Nat → Nat} : ∀ (k : Nat), (∃ s, p s ∧ m s ≤ k) → ∃ s, p s ∧ ∀ t, p t → m s ≤ m t
  | 0, ⟨s, h1, h2⟩ => ⟨s, h1, fun t _ => by omega⟩
  | k + 1, ⟨s, h1, h2⟩ => by
    by_cases h : ∃ t, p t ∧ m t ≤ k
    · exact least_ex k h
    · refine ⟨s, h1, fun t ht => ?_⟩
      false_or_by_contra
      exact h ⟨t, ht, by omega⟩
theorem open_nil {J : List Lg} {f : Bool} (hl : ∀ x ∈ J, x.2.1.length ≤ 1000000) : (checkJ J ≠ 0 ∧ openV J f [] = .tup [.np, .i .i64 (checkJ J)]) ∨ (checkJ J = 0 ∧ JOK J ∧ openV J f [] = .tup [heapV J f, .i .i64 0]) := by
  by_cases hc : checkJ J = 0
  · exact .inr ⟨hc, check_ok hl hc, by unfold openV; rw [if_neg (by simp [hc]), if_neg (by simp [isL, isLF])]⟩
  · exact .inl ⟨hc, by unfold openV; rw [if_pos hc]⟩
end Go.Ab
end
