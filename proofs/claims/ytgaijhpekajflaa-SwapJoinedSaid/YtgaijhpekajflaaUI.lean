/- Chains of drafts, the law SwapChained. -/
import Derived.Test.YtgaijhpekajflaaUH
set_option linter.unusedVariables false
set_option linter.unusedSimpArgs false
set_option maxHeartbeats 4000000
set_option maxRecDepth 100000
namespace Go.Ab
open Go Go.Proofs

theorem debt48 {a b c : Int} : FSpec Try.prog 48 [.i .i64 a, .i .i64 b, .i .i64 c] [] (.agg [.i .i64 a, .i .i64 b, .i .i64 c]) [] := by
  refine fn48.spec0 mixed noIt_ok ?_
  rw [ic48]
  refine ab_seq_k fun K1 h1 => ?_
  simp
  refine h1 _ _ _ ?_
  clear h1 K1
  refine ab_seq_k fun K2 h2 => ?_
  simp
  refine h2 _ _ _ ?_
  clear h2 K2
  simp
  exact fin_of 1 (by simp [rs48])
theorem perm_sum {F : Nat → Int} {l l' : List Nat} (h : l.Perm l') : (l.map F).sum = (l'.map F).sum := by
  induction h with
  | nil => rfl
  | cons x _ ih => simp [ih]
  | swap x y l => simp; omega
  | trans _ _ h1 h2 => rw [h1, h2]
/-- The set of a list of mills. -/
def setL (l : List Nat) : Nat := l.foldr (fun m s => 2 ^ m ||| s) 0
theorem setL_bit {l : List Nat} {i : Nat} : (setL l).testBit i = decide (i ∈ l) := by
  induction l with
  | nil => simp [setL]
  | cons m l ih =>
    show (2 ^ m ||| setL l).testBit i = _
    rw [Nat.testBit_or, ih, Nat.testBit_two_pow]
    by_cases h : m = i
    · subst h; simp
    · have : ¬ i = m := fun e => h e.symm
      simp [h, this]
theorem sumF_pow {F : Nat → Int} {m : Nat} : ∀ {N : Nat}, sumF F (2 ^ m) N = if m < N then F m else 0
  | 0 => by simp [sumF]
  | N + 1 => by
    simp only [sumF]
    rw [sumF_pow, Nat.testBit_two_pow]
    by_cases h : m = N
    · subst h; simp
    · by_cases h2 : m < N
      · have : m < N + 1 := by omega
        simp [h, h2, this]
      · have : ¬ m < N + 1 := by omega
        simp [h, h2, this]
theorem sumF_setL {F : Nat → Int} {N : Nat} : ∀ {l : List Nat}, l.Nodup → (∀ m ∈ l, m < N) → sumF F (setL l) N = (l.map F).sum
  | [], _, _ => sumF_none
  | m :: l, hn, hl => by
    have hn2 := List.nodup_cons.1 hn
    show sumF F (2 ^ m ||| setL l) N = _
    rw [sumF_or, sumF_setL hn2.2 (fun x hx => hl x (List.mem_cons_of_mem _ hx)), sumF_pow, if_pos (hl m (List.mem_cons_self ..))]
    · simp
    · refine dis_bit.2 fun i ⟨a, b⟩ => ?_
      rw [Nat.testBit_two_pow] at a
      rw [setL_bit] at b
      simp at a b
      subst a
      exact hn2.1 b
/-- The mills from one on. -/
def rotL (N c : Nat) : List Nat := (List.range N).drop c ++ (List.range N).take c
theorem rotL_perm {N c : Nat} : (rotL N c).Perm (List.range N) := by
  unfold rotL
  refine List.perm_append_comm.trans ?_
  rw [List.take_append_drop]
theorem rotL_len {N c : Nat} : (rotL N c).length = N := by rw [rotL_perm.length_eq, List.length_range]
theorem rotL_nodup {N c : Nat} : (rotL N c).Nodup := rotL_perm.nodup_iff.2 List.nodup_range
theorem rotL_mem {N c m : Nat} : m ∈ rotL N c ↔ m < N := by rw [rotL_perm.mem_iff, List.mem_range]
theorem rotL_get {N c i : Nat} (hc : c < N) (hi : i < N) : (rotL N c)[i]? = some ((c + i) % N) := by
  unfold rotL
  by_cases h : c + i < N
  · rw [List.getElem?_append_left (by simp; omega), List.getElem?_drop, List.getElem?_range h, Nat.mod_eq_of_lt h]
  · rw [List.getElem?_append_right (by simp; omega), List.length_drop, List.length_range, List.getElem?_take, if_pos (by omega), List.getElem?_range (by omega)]
    congr 1
    rw [Nat.mod_eq_sub_mod (by omega), Nat.mod_eq_of_lt (by omega)]
    omega
def nzD (d : Db) : Bool := !decide (d.2.2 = 0)
def chainL (F : Nat → Int) (N c : Nat) : List Db := (settleL F (rotL N c)).filter nzD
theorem balF_nz {L : List Db} {i : Nat} : balF (L.filter nzD) i = balF L i := by
  refine snoc_ind (P := fun L => balF (L.filter nzD) i = balF L i) rfl ?_ L
  intro L d ih
  rw [List.filter_append, balF_app, ih, balF_snoc]
  by_cases h : d.2.2 = 0
  · have : [d].filter nzD = [] := by simp [nzD, h]
    rw [this, balF_nil]
    unfold dlt
    rw [h]
    split <;> split <;> omega
  · have : [d].filter nzD = [d] := by simp [nzD, h]
    rw [this]
    have : balF [d] i = dlt d i := by
      have := balF_snoc (D := []) (d := d) (i := i)
      simpa [balF_nil] using this
    rw [this]
theorem draft_mem {F : Nat → Int} {l : List Nat} {d : Db} (h : d ∈ settleL F l) : ∃ i a b, l[i]? = some a ∧ l[i + 1]? = some b ∧ d = mkD (preS F l (i + 1)) a b := by
  unfold settleL at h
  obtain ⟨j, hj, rfl⟩ := List.mem_map.1 h
  have hjl := List.mem_range.1 hj
  refine ⟨j, l.getD j 0, l.getD (j + 1) 0, ?_, ?_, rfl⟩
  · simp [List.getD_eq_getElem?_getD, List.getElem?_eq_getElem (show j < l.length by omega)]
  · simp [List.getD_eq_getElem?_getD, List.getElem?_eq_getElem (show j + 1 < l.length by omega)]
theorem preS_abs {N : Nat} {D : List Db} {l : List Nat} {i : Nat} (hn : l.Nodup) (hl : ∀ m ∈ l, m < N) (hD : DbOK N 1000000 D) : -(1000000 * (D.length : Int)) ≤ preS (balF D) l i ∧ preS (balF D) l i ≤ 1000000 * (D.length : Int) := by
  unfold preS
  rw [← sumF_setL (F := balF D) (N := N) (hn.sublist (List.take_sublist ..)) (fun m hm => hl m (List.mem_of_mem_take hm))]
  exact sumF_abs hD
theorem chain_ok {N c : Nat} {D : List Db} (hc : checkBook N D = 0) (hN : N ≤ 10) (hD : DbOK N 1000000 D) (hlen : D.length ≤ 40) : draftE N D (chainL (balF D) N c) = 0 ∧ (chainL (balF D) N c).length ≤ 10 := by
  have hll : (chainL (balF D) N c).length ≤ 10 := by
    have := List.length_filter_le nzD (settleL (balF D) (rotL N c))
    rw [settleL_len, rotL_len] at this
    unfold chainL
    omega
  refine ⟨?_, hll⟩
  have hdd : ∀ d ∈ chainL (balF D) N c, (0 ≤ d.1 ∧ d.1 < N) ∧ (0 ≤ d.2.1 ∧ d.2.1 < N) ∧ d.1 ≠ d.2.1 ∧ 1 ≤ d.2.2 ∧ d.2.2 ≤ 40000000 := fun d hd => by
    obtain ⟨hd1, hd2⟩ := List.mem_filter.1 hd
    obtain ⟨i, a, b, ha, hb, rfl⟩ := draft_mem hd1
    have h1 := rotL_mem.1 (List.mem_of_getElem? ha)
    have h2 := rotL_mem.1 (List.mem_of_getElem? hb)
    have h3 : a ≠ b := fun e => by
      rw [e] at ha
      have := (List.getElem?_inj (List.getElem?_eq_some_iff.1 ha).1 rotL_nodup).1 (ha.trans hb.symm)
      omega
    have h8 := preS_abs (i := i + 1) (rotL_nodup (N := N) (c := c)) (fun m hm => rotL_mem.1 hm) hD
    have h9 : preS (balF D) (rotL N c) (i + 1) ≠ 0 := fun h => by
      unfold nzD mkD at hd2
      rw [h] at hd2
      simp at hd2
    generalize preS (balF D) (rotL N c) (i + 1) = l at *
    unfold mkD
    split <;> simp only <;> omega
  have hck : checkD N (chainL (balF D) N c) 40000000 = 0 := by
    have e1 : ((chainL (balF D) N c).any (strayD N)) = false := by
      rw [List.any_eq_false]
      intro d hd
      have := hdd d hd
      rw [stray_is]
      simp [isDebtB]
      omega
    have e2 : ((chainL (balF D) N c).any fun d => !fit 1 40000000 d.2.2) = false := by
      rw [List.any_eq_false]
      intro d hd
      have := hdd d hd
      unfold fit
      simp
      omega
    unfold checkD
    rw [if_neg (by rw [e1]; simp), if_neg (by rw [e2]; simp)]
  have hsum : ((rotL N c).map (balF D)).sum = 0 := by
    rw [← sumF_setL rotL_nodup (fun m hm => rotL_mem.1 hm)]
    have : setL (rotL N c) = 2 ^ N - 1 := by
      apply Nat.eq_of_testBit_eq
      intro i
      rw [setL_bit, Nat.testBit_two_pow_sub_one]
      simp [rotL_mem]
    rw [this]
    exact bal_all hD rfl
  have hbal : rowF 10 (balF D) = rowF 10 (balF (chainL (balF D) N c)) := rowF_congr fun i hi => by
    by_cases hiN : i < N
    · unfold chainL
      rw [balF_nz, settle_in rotL_nodup hsum (rotL_mem.2 hiN)]
    · rw [balF_out hD (by omega), balF_out (n := N) (M := 40000000) (fun d hd => hdd d hd) (by omega)]
  unfold draftE
  rw [if_neg (by simp [hc]), if_neg (by omega), if_neg (by simp [hck]), if_pos hbal]
theorem topP_pos {N : Nat} {D : List Db} (hN1 : 1 ≤ N) (hD : DbOK N 1000000 D) : 1 ≤ topP N D := by
  have hW : 2 ≤ 2 ^ N := by
    have := Nat.pow_le_pow_right (n := 2) (by omega) hN1
    omega
  obtain ⟨i, -, e⟩ := prP_at (F := balF D) (N := N) (s := 2 ^ N - 1) (by omega) (by omega)
  rw [ev_iff.2 ⟨by omega, bal_all hD rfl⟩, if_pos rfl] at e
  have := prP_nn (F := balF D) (N := N) (s := drop1 (2 ^ N - 1) i)
  unfold topP
  omega
theorem chain_take {F : Nat → Int} {N c i m m' : Nat} (h1 : (rotL N c)[i]? = some m) (h2 : (rotL N c)[i + 1]? = some m') :
    ((settleL F (rotL N c)).take (i + 1)).filter nzD = ((settleL F (rotL N c)).take i).filter nzD ++ (if preS F (rotL N c) (i + 1) = 0 then [] else [mkD (preS F (rotL N c) (i + 1)) m m']) := by
  have hl := (List.getElem?_eq_some_iff.1 h2).1
  rw [settle_take (by omega), List.filter_append]
  congr 1
  have : draftAt F (rotL N c) i = mkD (preS F (rotL N c) (i + 1)) m m' := by
    unfold draftAt
    rw [List.getD_eq_getElem?_getD, h1, List.getD_eq_getElem?_getD, h2]
    rfl
  rw [this]
  generalize preS F (rotL N c) (i + 1) = l
  by_cases h : l = 0
  · subst h; rfl
  · have : nzD (mkD l m m') = true := by
      unfold nzD mkD
      split <;> simp <;> omega
    rw [if_neg h]
    simp [this]
end Go.Ab
