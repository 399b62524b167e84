/- Partings into even sets, and settling a set: plain. -/
import Derived.Test.YtgaijhpekajflaaSZ
set_option linter.unusedVariables false
set_option linter.unusedSimpArgs false
set_option maxHeartbeats 4000000
set_option maxRecDepth 100000
namespace Go.Ab
open Go Go.Proofs

section
variable {F : Nat → Int} {N : Nat}
theorem prP_mono : ∀ V U, V < 2 ^ N → Sub U V → prP F N U ≤ prP F N V := by
  intro V
  induction V using Nat.strongRecOn with
  | _ V ih =>
    intro U hV hs
    by_cases he : U = V
    · subst he; exact Int.le_refl _
    have : ∃ i, V.testBit i = true ∧ U.testBit i = false := by
      false_or_by_contra
      rename_i hn
      refine he (Nat.eq_of_testBit_eq fun i => ?_)
      cases hu : U.testBit i with
      | true => exact (sub_iff.1 hs i hu).symm
      | false => cases hv : V.testBit i with
        | false => rfl
        | true => exact absurd ⟨i, hv, hu⟩ hn
    obtain ⟨i, h1, h2⟩ := this
    have hsd : Sub U (drop1 V i) := sub_iff.2 fun j hj => by
      rw [drop1_bit, sub_iff.1 hs j hj]
      by_cases hij : i = j
      · subst hij; rw [h2] at hj; cases hj
      · simp [hij]
    have h3 := ih _ (drop1_lt h1) U (by have := drop1_lt h1; omega) hsd
    have h4 := prP_up (F := F) hV h1
    split at h4 <;> omega
theorem prP_all {U : Nat} (h : U < 2 ^ N) : prP F N U ≤ prP F N (2 ^ N - 1) :=
  prP_mono _ _ (by omega) (sub_iff.2 fun i hi => by rw [Nat.testBit_two_pow_sub_one]; simp; exact bit_lt h hi)
theorem parts_ex {G : List Nat} : (∀ g ∈ G, g < 2 ^ N ∧ evF F N g = true) → (∀ m, cntB m G ≤ 1) → ∃ U, U < 2 ^ N ∧ (∀ m, U.testBit m = true ↔ cntB m G = 1) ∧ (G.length : Int) ≤ prP F N U := by
  refine snoc_ind (P := fun G => (∀ g ∈ G, g < 2 ^ N ∧ evF F N g = true) → (∀ m, cntB m G ≤ 1) → ∃ U, U < 2 ^ N ∧ (∀ m, U.testBit m = true ↔ cntB m G = 1) ∧ (G.length : Int) ≤ prP F N U) ?_ ?_ G
  · intro _ _
    exact ⟨0, Nat.two_pow_pos N, by simp [cntB], by rw [prP_zero]; simp⟩
  · intro G g ih hg hc
    obtain ⟨U, h1, h2, h3⟩ := ih (fun x hx => hg x (List.mem_append_left _ hx)) (fun m => by have := hc m; rw [cntB_snoc] at this; omega)
    obtain ⟨g1, g2⟩ := hg g (by simp)
    have hd : U &&& g = 0 := dis_bit.2 fun m ⟨a, b⟩ => by
      have := hc m
      rw [cntB_snoc, b, if_pos rfl, (h2 m).1 a] at this
      omega
    refine ⟨U ||| g, lt_or h1 g1, fun m => ?_, ?_⟩
    · have a := h2 m
      have b := hc m
      have d := dis_bit.1 hd m
      rw [cntB_snoc] at b ⊢
      rw [Nat.testBit_or]
      cases hu : U.testBit m <;> cases hgm : g.testBit m <;> simp_all <;> omega
    · have := price_more (F := F) U g h1 g1 hd g2
      rw [List.length_append, List.length_singleton]
      omega
theorem cntB_out {G : List Nat} (h : ∀ g ∈ G, g < 2 ^ N) {m : Nat} (hm : N ≤ m) : cntB m G = 0 := by
  unfold cntB
  rw [List.countP_eq_zero]
  intro g hg hb
  have := bit_lt (h g hg) hb
  omega
/-- No more groups than prices say. -/
theorem parts_le {G : List Nat} (hg : ∀ g ∈ G, g < 2 ^ N ∧ evF F N g = true) (hc : ∀ m, m < N → cntB m G ≤ 1) : (G.length : Int) ≤ prP F N (2 ^ N - 1) := by
  obtain ⟨U, h1, -, h3⟩ := parts_ex hg (fun m => by
    by_cases h : m < N
    · exact hc m h
    · rw [cntB_out (fun g hg' => (hg g hg').1) (by omega)]; omega)
  have := prP_all (F := F) h1
  omega
theorem pr_least {P : List Int} (hP : AllPr F N P) (h0 : gL P 0 = 0) : ∀ s, s < 2 ^ N → prP F N s ≤ gL P s := by
  intro s
  induction s using Nat.strongRecOn with
  | _ s ih =>
    intro hs
    by_cases hz : s = 0
    · subst hz; rw [prP_zero, h0]; exact Int.le_refl _
    obtain ⟨i, hi, e⟩ := prP_at (F := F) hs hz
    have h1 := ih _ (drop1_lt hi) (by have := drop1_lt hi; omega)
    have h2 := hP s hs i (bit_lt hs hi) hi
    omega
theorem cntB_perm {m : Nat} {G G' : List Nat} (h : G.Perm G') : cntB m G = cntB m G' := h.countP_eq _
theorem cntB_cons {m g : Nat} {G : List Nat} : cntB m (g :: G) = cntB m G + (if g.testBit m then 1 else 0) := by
  unfold cntB
  rw [List.countP_cons]
/-- The groups that are found cannot be parted further. -/
theorem chain_min {o : List Nat} (h : Chain F N o 0 0) {g q : Nat} (hg : g ∈ o) (hq : Sub q g) (h0 : q ≠ 0) (hne : q ≠ g) : sumF F q N ≠ 0 := by
  intro hz
  have hp := List.perm_cons_erase hg
  generalize o.erase g = r at hp
  have hgg := h.og g hg
  have hls := less_sub hq
  have hle := hq.le
  have hsum := sumF_less (F := F) (m := N) hq
  have hr : ∀ x ∈ r, x ∈ o := fun x hx => hp.mem_iff.2 (List.mem_cons_of_mem _ hx)
  have := parts_le (F := F) (N := N) (G := (r ++ [q]) ++ [less g q]) (fun x hx => by
    rcases List.mem_append.1 hx with hx | hx
    · rcases List.mem_append.1 hx with hx | hx
      · have := h.og x (hr x hx)
        exact ⟨this.2.1, ev_iff.2 ⟨by omega, this.2.2⟩⟩
      · simp at hx; subst hx
        exact ⟨by omega, ev_iff.2 ⟨h0, hz⟩⟩
    · simp at hx; subst hx
      exact ⟨by omega, ev_iff.2 ⟨by omega, by rw [hz, hgg.2.2] at hsum; omega⟩⟩) (fun m hm => by
    have h1 := h.one m hm
    rw [cntB_perm hp, cntB_cons] at h1
    rw [cntB_snoc, cntB_snoc, less_bit]
    have h2 := sub_iff.1 hq m
    simp at h1
    cases hgm : g.testBit m <;> cases hqm : q.testBit m <;> simp_all)
  have h3 := h.cnt
  rw [prP_zero] at h3
  have h4 := hp.length_eq
  simp at this h4
  omega
end

/-! ### Settling a set -/
def mlL (g k : Nat) : List Nat := (List.range k).filter fun i => g.testBit i
theorem mlL_succ {g k : Nat} : mlL g (k + 1) = mlL g k ++ (if g.testBit k then [k] else []) := by
  unfold mlL
  rw [List.range_succ, List.filter_append]
  congr 1
  cases h : g.testBit k <;> simp [h]
theorem mlL_mem {g k x : Nat} : x ∈ mlL g k ↔ x < k ∧ g.testBit x = true := by simp [mlL]
theorem mlL_nodup {g k : Nat} : (mlL g k).Nodup := List.nodup_range.filter _
theorem mlL_len {g k : Nat} : (mlL g k).length ≤ k := by
  unfold mlL
  have := List.length_filter_le (fun i => g.testBit i) (List.range k)
  rw [List.length_range] at this
  exact this
theorem mlL_cnt {g : Nat} : ∀ {k : Nat}, ((mlL g k).length : Int) = sumF (fun _ => 1) g k
  | 0 => rfl
  | k + 1 => by
    rw [mlL_succ, List.length_append]
    simp only [sumF]
    rw [← mlL_cnt]
    cases g.testBit k <;> simp
theorem mlL_take {g : Nat} : ∀ {k j m : Nat}, (mlL g k)[j]? = some m → (mlL g k).take j = mlL g m
  | 0, j, m, h => by simp [mlL] at h
  | k + 1, j, m, h => by
    rw [mlL_succ] at h ⊢
    by_cases hj : j < (mlL g k).length
    · rw [List.getElem?_append_left hj] at h
      rw [List.take_append_of_le_length (by omega)]
      exact mlL_take h
    · rw [List.getElem?_append_right (by omega)] at h
      cases hb : g.testBit k with
      | false => rw [hb] at h; simp at h
      | true =>
        rw [hb] at h
        simp only [if_true] at h
        have hj0 : j - (mlL g k).length = 0 := by
          have := (List.getElem?_eq_some_iff.1 h).1
          simp at this
          omega
        rw [hj0] at h
        simp at h
        subst h
        rw [show j = (mlL g k).length by omega, List.take_append_of_le_length (Nat.le_refl _), List.take_length]
/-- What the first ones have on the whole. -/
def preS (F : Nat → Int) (l : List Nat) (i : Nat) : Int := ((l.take i).map F).sum
theorem preS_succ {F : Nat → Int} {l : List Nat} {i m : Nat} (h : l[i]? = some m) : preS F l (i + 1) = preS F l i + F m := by
  unfold preS
  rw [List.take_add_one, h]
  simp
theorem preS_ml {F : Nat → Int} {g : Nat} : ∀ {k : Nat}, ((mlL g k).map F).sum = sumF F g k
  | 0 => rfl
  | k + 1 => by
    rw [mlL_succ]
    simp only [sumF]
    rw [← preS_ml]
    cases g.testBit k <;> simp
theorem preS_at {F : Nat → Int} {g k j m : Nat} (h : (mlL g k)[j]? = some m) : preS F (mlL g k) j = sumF F g m := by
  unfold preS
  rw [mlL_take h, preS_ml]
def mkD (l : Int) (a b : Nat) : Db := if l < 0 then ((a : Int), (b : Int), -l) else ((b : Int), (a : Int), l)
theorem mkD_dlt {l : Int} {a b i : Nat} : dlt (mkD l a b) i = (if a = i then l else 0) - (if b = i then l else 0) := by
  unfold mkD dlt
  have e : ∀ a : Nat, ((a : Int) = (i : Int)) = (a = i) := fun a => by rw [eq_iff_iff]; omega
  split
  · simp only [e]
    split <;> split <;> omega
  · simp only [e]
def draftAt (F : Nat → Int) (l : List Nat) (i : Nat) : Db := mkD (preS F l (i + 1)) (l.getD i 0) (l.getD (i + 1) 0)
def settleL (F : Nat → Int) (l : List Nat) : List Db := (List.range (l.length - 1)).map (draftAt F l)
@[simp] theorem settleL_len {F l} : (settleL F l).length = l.length - 1 := by simp [settleL]
theorem settle_bal {F : Nat → Int} {l : List Nat} (hn : l.Nodup) {p x : Nat} (hp : l[p]? = some x) : ∀ k, k + 1 ≤ l.length → balF ((List.range k).map (draftAt F l)) x = if p < k then F x else if p = k then - preS F l k else 0
  | 0, _ => by
    have e : balF ((List.range 0).map (draftAt F l)) x = 0 := rfl
    rw [e, if_neg (by omega)]
    split
    · simp [preS]
    · rfl
  | k + 1, hk => by
    rw [List.range_succ, List.map_append, List.map_singleton, balF_snoc, settle_bal hn hp k (by omega)]
    have ha : l[k]? = some (l.getD k 0) := by simp [List.getD_eq_getElem?_getD, List.getElem?_eq_getElem (show k < l.length by omega)]
    have hb : l[k + 1]? = some (l.getD (k + 1) 0) := by simp [List.getD_eq_getElem?_getD, List.getElem?_eq_getElem (show k + 1 < l.length by omega)]
    unfold draftAt
    rw [mkD_dlt]
    have hpl := (List.getElem?_eq_some_iff.1 hp).1
    have e1 : (l.getD k 0 = x) ↔ k = p := by
      constructor
      · intro h
        rw [h] at ha
        exact (List.getElem?_inj (by omega) hn).1 (ha.trans hp.symm)
      · rintro rfl; rw [ha] at hp; exact Option.some.inj hp
    have e2 : (l.getD (k + 1) 0 = x) ↔ k + 1 = p := by
      constructor
      · intro h
        rw [h] at hb
        exact (List.getElem?_inj (by omega) hn).1 (hb.trans hp.symm)
      · rintro rfl; rw [hb] at hp; exact Option.some.inj hp
    have hps := preS_succ (F := F) ha
    generalize l.getD k 0 = a at *
    generalize l.getD (k + 1) 0 = b at *
    by_cases h1 : k = p
    · have h1' := e1.2 h1
      have h2 : ¬ (b = x) := fun h => by have := e2.1 h; omega
      rw [if_neg (by omega), if_pos h1.symm, if_pos h1', if_neg h2, if_pos (by omega), hps, h1']
      omega
    · have h1' : ¬ a = x := fun h => h1 (e1.1 h)
      by_cases h2 : k + 1 = p
      · have h2' := e2.2 h2
        rw [if_neg (by omega), if_neg (by omega), if_neg h1', if_pos h2', if_neg (by omega), if_pos h2.symm]
        omega
      · have h2' : ¬ b = x := fun h => h2 (e2.1 h)
        rw [if_neg h1', if_neg h2']
        by_cases h3 : p < k
        · rw [if_pos h3, if_pos (by omega)]; omega
        · rw [if_neg h3, if_neg (by omega), if_neg (by omega), if_neg (by omega)]; omega
/-- The drafts of a set leave its balances. -/
theorem settle_in {F : Nat → Int} {l : List Nat} (hn : l.Nodup) (h0 : (l.map F).sum = 0) {x : Nat} (hx : x ∈ l) : balF (settleL F l) x = F x := by
  obtain ⟨p, hp⟩ := List.mem_iff_getElem?.1 hx
  have hpl := (List.getElem?_eq_some_iff.1 hp).1
  have := settle_bal (F := F) hn hp (l.length - 1) (by omega)
  unfold settleL
  rw [this]
  by_cases h : p < l.length - 1
  · rw [if_pos h]
  · rw [if_neg h, if_pos (by omega)]
    have hps := preS_succ (F := F) hp
    have : preS F l (p + 1) = 0 := by unfold preS; rw [List.take_of_length_le (by omega)]; exact h0
    rw [show l.length - 1 = p by omega]
    omega
theorem settle_out {F : Nat → Int} {l : List Nat} {x : Nat} (hx : x ∉ l) : balF (settleL F l) x = 0 := by
  have : ∀ k, k + 1 ≤ l.length → balF ((List.range k).map (draftAt F l)) x = 0 := by
    intro k
    induction k with
    | zero => intro _; rfl
    | succ k ih =>
      intro hk
      rw [List.range_succ, List.map_append, List.map_singleton, balF_snoc, ih (by omega)]
      unfold draftAt
      rw [mkD_dlt]
      have ha : l[k]? = some (l.getD k 0) := by simp [List.getD_eq_getElem?_getD, List.getElem?_eq_getElem (show k < l.length by omega)]
      have hb : l[k + 1]? = some (l.getD (k + 1) 0) := by simp [List.getD_eq_getElem?_getD, List.getElem?_eq_getElem (show k + 1 < l.length by omega)]
      have hma := List.mem_of_getElem? ha
      have hmb := List.mem_of_getElem? hb
      generalize l.getD k 0 = a at *
      generalize l.getD (k + 1) 0 = b at *
      rw [if_neg (fun h => hx (by rw [← h]; exact hma)), if_neg (fun h => hx (by rw [← h]; exact hmb))]
      rfl
  unfold settleL
  by_cases h : l.length = 0
  · rw [h]; rfl
  · exact this _ (by omega)
end Go.Ab
