/- The drafts of a book: plain, Drafts, the law SwapDrafts. -/
import Derived.Test.YtgaijhpekajflaaUB
import Derived.Test.YtgaijhpekajflaaUW
set_option linter.unusedVariables false
set_option linter.unusedSimpArgs false
set_option maxHeartbeats 4000000
set_option maxRecDepth 100000
namespace Go.Ab
open Go Go.Proofs

def allD (F : Nat → Int) (N : Nat) : List Nat → List Db
  | [] => []
  | g :: G => settleL F (mlL g N) ++ allD F N G
theorem allD_append {F : Nat → Int} {N : Nat} : ∀ {A B : List Nat}, allD F N (A ++ B) = allD F N A ++ allD F N B
  | [], B => rfl
  | g :: A, B => by
    show settleL F (mlL g N) ++ allD F N (A ++ B) = settleL F (mlL g N) ++ allD F N A ++ allD F N B
    rw [allD_append, List.append_assoc]
def sN (h : Nat → Int) : Nat → Int
  | 0 => 0
  | m + 1 => sN h m + h m
theorem sN_add {h h' : Nat → Int} : ∀ {m : Nat}, sN (fun i => h i + h' i) m = sN h m + sN h' m
  | 0 => rfl
  | m + 1 => by simp only [sN]; rw [sN_add]; omega
theorem sN_congr {h h' : Nat → Int} : ∀ {m : Nat}, (∀ i, i < m → h i = h' i) → sN h m = sN h' m
  | 0, _ => rfl
  | m + 1, e => by simp only [sN]; rw [sN_congr (fun i hi => e i (by omega)), e m (by omega)]
theorem sN_one : ∀ {m : Nat}, sN (fun _ => 1) m = m
  | 0 => rfl
  | m + 1 => by simp only [sN]; rw [sN_one]; omega
theorem sN_bit {g : Nat} : ∀ {m : Nat}, sN (fun i => if g.testBit i then 1 else 0) m = sumF (fun _ => 1) g m
  | 0 => rfl
  | m + 1 => by simp only [sN, sumF]; rw [sN_bit]
section
variable {F : Nat → Int} {N : Nat}
theorem ml_ne {g : Nat} (h0 : g ≠ 0) (h : g < 2 ^ N) : (mlL g N).length ≠ 0 := fun e => by
  obtain ⟨i, hi⟩ := ne_bit h0
  have : i ∈ mlL g N := mlL_mem.2 ⟨bit_lt h hi, hi⟩
  rw [List.length_eq_zero_iff.1 e] at this
  cases this
theorem allD_len : ∀ {G : List Nat}, (∀ g ∈ G, g ≠ 0 ∧ g < 2 ^ N) → ((allD F N G).length : Int) + G.length = sN (fun m => (cntB m G : Int)) N
  | [], _ => by
    have : sN (fun m => (cntB m [] : Int)) N = sN (fun _ => 0) N := rfl
    rw [this]
    have e : ∀ m, sN (fun _ => 0) m = 0 := fun m => by induction m with | zero => rfl | succ m ih => simp [sN, ih]
    rw [e]; rfl
  | g :: G, h => by
    have ih := allD_len (G := G) (fun x hx => h x (List.mem_cons_of_mem _ hx))
    have hg := h g (List.mem_cons_self ..)
    have e : sN (fun m => (cntB m (g :: G) : Int)) N = sN (fun m => (cntB m G : Int)) N + sN (fun i => if g.testBit i then 1 else 0) N := by
      rw [← sN_add]
      refine sN_congr fun i _ => ?_
      rw [cntB_cons]
      split <;> simp
    rw [e, ← ih, sN_bit, ← mlL_cnt]
    have h1 := ml_ne hg.1 hg.2
    show (((settleL F (mlL g N) ++ allD F N G).length : Nat) : Int) + ((G.length + 1 : Nat) : Int) = _
    rw [List.length_append, settleL_len]
    omega
theorem allD_bal {i : Nat} (hi : i < N) : ∀ {G : List Nat}, (∀ g ∈ G, sumF F g N = 0) → cntB i G ≤ 1 → balF (allD F N G) i = if cntB i G = 0 then 0 else F i
  | [], _, _ => rfl
  | g :: G, h, hc => by
    rw [cntB_cons] at hc
    have ih := allD_bal hi (G := G) (fun x hx => h x (List.mem_cons_of_mem _ hx)) (by omega)
    have hg := h g (List.mem_cons_self ..)
    show balF (settleL F (mlL g N) ++ allD F N G) i = _
    rw [balF_app, ih, cntB_cons]
    cases hb : g.testBit i with
    | true =>
      rw [settle_in mlL_nodup (by rw [preS_ml]; exact hg) (mlL_mem.2 ⟨hi, hb⟩)]
      rw [hb, if_pos rfl] at hc
      rw [if_pos (by omega), if_pos rfl, if_neg (by omega)]
      omega
    | false =>
      rw [settle_out (fun h => by have := (mlL_mem.1 h).2; rw [hb] at this; cases this)]
      simp
theorem sumF_mod {g m : Nat} (hm : m ≤ N) : sumF F (g % 2 ^ m) N = sumF F g m := by
  have h1 : ∀ k, k ≤ m → sumF F (g % 2 ^ m) k = sumF F g k := fun k => by
    induction k with
    | zero => intro _; rfl
    | succ k ih =>
      intro hk
      simp only [sumF]
      rw [ih (by omega), Nat.testBit_mod_two_pow]
      simp [show k < m by omega]
  have h2 : ∀ k, sumF F (g % 2 ^ m) (m + k) = sumF F (g % 2 ^ m) m := fun k => by
    induction k with
    | zero => rfl
    | succ k ih =>
      rw [← Nat.add_assoc]
      simp only [sumF]
      rw [ih, Nat.testBit_mod_two_pow]
      simp [show ¬ (m + k < m) by omega]
  have := h2 (N - m)
  rw [show m + (N - m) = N by omega, h1 m (Nat.le_refl _)] at this
  exact this
theorem settle_mem {g : Nat} {d : Db} (h : d ∈ settleL F (mlL g N)) : ∃ a b l, d = mkD l a b ∧ a < b ∧ b < N ∧ l = sumF F (g % 2 ^ b) N ∧ Sub (g % 2 ^ b) g ∧ g % 2 ^ b ≠ 0 ∧ g % 2 ^ b ≠ g := by
  unfold settleL at h
  obtain ⟨j, hj, rfl⟩ := List.mem_map.1 h
  have hjl := List.mem_range.1 hj
  have ha : (mlL g N)[j]? = some ((mlL g N).getD j 0) := by simp [List.getD_eq_getElem?_getD, List.getElem?_eq_getElem (show j < (mlL g N).length by omega)]
  have hb : (mlL g N)[j + 1]? = some ((mlL g N).getD (j + 1) 0) := by simp [List.getD_eq_getElem?_getD, List.getElem?_eq_getElem (show j + 1 < (mlL g N).length by omega)]
  unfold draftAt
  have hp := preS_at (F := F) hb
  have htk := mlL_take hb
  generalize (mlL g N).getD j 0 = a at *
  generalize (mlL g N).getD (j + 1) 0 = b at *
  have hbm := mlL_mem.1 (List.mem_of_getElem? hb)
  have ham : a ∈ mlL g b := by
    rw [← htk]
    refine List.mem_of_getElem? (i := j) ?_
    rw [List.getElem?_take, if_pos (by omega)]
    exact ha
  have ham2 := mlL_mem.1 ham
  refine ⟨a, b, _, rfl, ham2.1, hbm.1, ?_, ?_, ?_, ?_⟩
  · rw [hp, sumF_mod (by omega)]
  · exact sub_iff.2 fun i hi => by rw [Nat.testBit_mod_two_pow, Bool.and_eq_true] at hi; exact hi.2
  · intro h0
    have : (g % 2 ^ b).testBit a = true := by rw [Nat.testBit_mod_two_pow, ham2.2]; simp [ham2.1]
    rw [h0] at this
    simp at this
  · intro h0
    have : (g % 2 ^ b).testBit b = false := by rw [Nat.testBit_mod_two_pow]; simp
    rw [h0, hbm.2] at this
    cases this
theorem allD_mem {d : Db} : ∀ {G : List Nat}, d ∈ allD F N G → ∃ g ∈ G, d ∈ settleL F (mlL g N)
  | [], h => by cases h
  | g :: G, h => by
    rcases List.mem_append.1 h with h | h
    · exact ⟨g, List.mem_cons_self .., h⟩
    · obtain ⟨x, hx, hd⟩ := allD_mem h
      exact ⟨x, List.mem_cons_of_mem _ hx, hd⟩
end
theorem sumF_abs {N s : Nat} {D : List Db} : DbOK N 1000000 D → -(1000000 * (D.length : Int)) ≤ sumF (balF D) s N ∧ sumF (balF D) s N ≤ 1000000 * (D.length : Int) := by
  refine snoc_ind (P := fun D => DbOK N 1000000 D → -(1000000 * (D.length : Int)) ≤ sumF (balF D) s N ∧ sumF (balF D) s N ≤ 1000000 * (D.length : Int)) ?_ ?_ D
  · intro _
    have : sumF (balF []) s N = 0 := sumF_zero fun i _ => rfl
    rw [this]; simp
  · intro D d ih hD
    have h1 := ih (fun x hx => hD x (List.mem_append_left _ hx))
    have hd := hD d (by simp)
    have e : sumF (balF (D ++ [d])) s N = sumF (balF D) s N + sumF (dlt d) s N := by
      rw [← sumF_add]
      exact sumF_congr fun i _ => balF_snoc
    rw [e, sumF_dlt hd.1.1 hd.2.1.1, List.length_append, List.length_singleton]
    obtain ⟨-, -, -, h5, h6⟩ := hd
    split <;> split <;> omega
/-- The drafts of the groups that are found settle the book. -/
theorem drafts_ok {N : Nat} {D : List Db} {G o : List Nat} (hc : checkBook N D = 0) (hN : N ≤ 10) (hD : DbOK N 1000000 D) (hlen : D.length ≤ 40) (h : Chain (balF D) N o 0 0) (hp : G.Perm o) :
    draftE N D (allD (balF D) N G) = 0 ∧ ((allD (balF D) N G).length : Int) = N - topP N D := by
  have hm : ∀ g, g ∈ G → g ∈ o := fun g hg => hp.mem_iff.1 hg
  have hone : ∀ m, m < N → cntB m G = 1 := fun m hm => by rw [cntB_perm hp, h.one m hm]; simp
  have hlenD : ((allD (balF D) N G).length : Int) = N - topP N D := by
    have := allD_len (F := balF D) (N := N) (G := G) (fun g hg => by have := h.og g (hm g hg); exact ⟨by omega, this.2.1⟩)
    rw [sN_congr (h' := fun _ => 1) (fun i hi => by rw [hone i hi]; rfl), sN_one, hp.length_eq, chain_top h] at this
    omega
  refine ⟨?_, hlenD⟩
  have hdd : ∀ d ∈ allD (balF D) N G, (0 ≤ d.1 ∧ d.1 < N) ∧ (0 ≤ d.2.1 ∧ d.2.1 < N) ∧ d.1 ≠ d.2.1 ∧ 1 ≤ d.2.2 ∧ d.2.2 ≤ 40000000 := fun d hd => by
    obtain ⟨g, hg, hdg⟩ := allD_mem hd
    obtain ⟨a, b, l, rfl, h1, h2, h3, h4, h5, h6⟩ := settle_mem hdg
    have h7 := chain_min h (hm g hg) h4 h5 h6
    have h8 := sumF_abs (s := g % 2 ^ b) hD
    rw [← h3] at h7 h8
    unfold mkD
    split <;> simp only <;> omega
  have hck : checkD N (allD (balF D) N G) 40000000 = 0 := by
    have e1 : ((allD (balF D) N G).any (strayD N)) = false := by
      rw [List.any_eq_false]
      intro d hd
      have := hdd d hd
      rw [stray_is]
      simp [isDebtB]
      omega
    have e2 : ((allD (balF D) N G).any fun d => !fit 1 40000000 d.2.2) = false := by
      rw [List.any_eq_false]
      intro d hd
      have := hdd d hd
      unfold fit
      simp
      omega
    unfold checkD
    rw [if_neg (by rw [e1]; simp), if_neg (by rw [e2]; simp)]
  have hbal : rowF 10 (balF D) = rowF 10 (balF (allD (balF D) N G)) := rowF_congr fun i hi => by
    by_cases hiN : i < N
    · rw [allD_bal hiN (fun g hg => (h.og g (hm g hg)).2.2) (by rw [hone i hiN]; omega), hone i hiN]
      simp
    · rw [balF_out hD (by omega), balF_out (n := N) (M := 40000000) (fun d hd => hdd d hd) (by omega)]
  have htb := topP_b (N := N) (D := D)
  unfold draftE
  rw [if_neg (by simp [hc]), if_neg (by omega), if_neg (by simp [hck]), if_pos hbal]
end Go.Ab
