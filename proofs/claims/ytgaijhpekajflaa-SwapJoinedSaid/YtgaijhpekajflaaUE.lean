/- Drafts that settle are not fewer, the law SwapFewest. -/
import Derived.Test.YtgaijhpekajflaaUD
set_option linter.unusedVariables false
set_option linter.unusedSimpArgs false
set_option maxHeartbeats 4000000
set_option maxRecDepth 100000
namespace Go.Ab
open Go Go.Proofs

theorem cnt_ex {m : Nat} {G : List Nat} (h : cntB m G = 1) : ∃ g ∈ G, g.testBit m = true := by
  have : 0 < G.countP fun g => g.testBit m := by unfold cntB at h; omega
  exact List.countP_pos_iff.1 this
/-- Two of the sets are made one, if a pair of mills is parted. -/
theorem merge_ex {N a b : Nat} {G : List Nat} {P : Nat → Prop} (hone : ∀ m, m < N → cntB m G = 1) (ha : a < N) (hb : b < N) (hP : ∀ g ∈ G, P g)
    (hor : ∀ x y, P x → P y → x &&& y = 0 → P (x ||| y)) (hlt : ∀ g ∈ G, g < 2 ^ N) :
    ∃ G', (∀ m, m < N → cntB m G' = 1) ∧ (∀ g ∈ G', P g) ∧ (∀ g ∈ G', g < 2 ^ N) ∧ (∀ g ∈ G', g.testBit a = g.testBit b) ∧ G.length ≤ G'.length + 1 := by
  by_cases hall : ∀ g ∈ G, g.testBit a = g.testBit b
  · exact ⟨G, hone, hP, hlt, hall, by omega⟩
  obtain ⟨ga, hga, hgaa⟩ := cnt_ex (hone a ha)
  obtain ⟨gb, hgb, hgbb⟩ := cnt_ex (hone b hb)
  have hp := List.perm_cons_erase hga
  generalize G.erase ga = r at hp
  have hca := hone a ha
  rw [cntB_perm hp, cntB_cons, hgaa, if_pos rfl] at hca
  have hcb := hone b hb
  rw [cntB_perm hp, cntB_cons] at hcb
  have hne : ga.testBit b = false := by
    cases hq : ga.testBit b with
    | false => rfl
    | true =>
      refine absurd (fun g hg => ?_) hall
      rw [hq, if_pos rfl] at hcb
      rcases List.mem_cons.1 (hp.mem_iff.1 hg) with rfl | hr
      · rw [hgaa, hq]
      · have z : ∀ m, cntB m r = 0 → g.testBit m = false := fun m hz => by
          unfold cntB at hz
          rw [List.countP_eq_zero] at hz
          simpa using hz g hr
        rw [z a (by omega), z b (by omega)]
  have hgr : gb ∈ r := by
    rcases List.mem_cons.1 (hp.mem_iff.1 hgb) with h | h
    · rw [h, hne] at hgbb; cases hgbb
    · exact h
  have hp2 := List.perm_cons_erase hgr
  generalize r.erase gb = r' at hp2
  have hcnt : ∀ m, cntB m G = cntB m r' + (if gb.testBit m then 1 else 0) + (if ga.testBit m then 1 else 0) := fun m => by
    rw [cntB_perm hp, cntB_cons, cntB_perm hp2, cntB_cons]
  have hmem : ∀ g ∈ r', g ∈ G := fun g hg => hp.mem_iff.2 (List.mem_cons_of_mem _ (hp2.mem_iff.2 (List.mem_cons_of_mem _ hg)))
  have hdis : ga &&& gb = 0 := dis_bit.2 fun m ⟨x, y⟩ => by
    have h1 := hcnt m
    rw [x, y, if_pos rfl] at h1
    have h2 := hone m (bit_lt (hlt ga hga) x)
    omega
  refine ⟨(ga ||| gb) :: r', fun m hm => ?_, fun g hg => ?_, fun g hg => ?_, fun g hg => ?_, ?_⟩
  · have h1 := hcnt m
    rw [hone m hm] at h1
    rw [cntB_cons, Nat.testBit_or]
    clear hall hone hp hp2 hcnt hmem
    generalize cntB m r' = n at h1 ⊢
    cases x : ga.testBit m <;> cases y : gb.testBit m <;> rw [x, y] at h1 <;> simp at h1 ⊢ <;> omega
  · rcases List.mem_cons.1 hg with rfl | hg
    · exact hor _ _ (hP _ hga) (hP _ hgb) hdis
    · exact hP _ (hmem g hg)
  · rcases List.mem_cons.1 hg with rfl | hg
    · exact lt_or (hlt _ hga) (hlt _ hgb)
    · exact hlt _ (hmem g hg)
  · rcases List.mem_cons.1 hg with rfl | hg
    · rw [Nat.testBit_or, Nat.testBit_or, hgaa, hgbb]; simp
    · have z : ∀ m, cntB m r' = 0 → g.testBit m = false := fun m hz => by
        unfold cntB at hz
        rw [List.countP_eq_zero] at hz
        simpa using hz g hg
      have h1 := hcnt a
      rw [hone a ha, hgaa, if_pos rfl] at h1
      have h2 := hcnt b
      rw [hone b hb, hgbb, if_pos rfl] at h2
      rw [z a (by omega), z b (by omega)]
  · have h1 := hp.length_eq
    have h2 := hp2.length_eq
    simp at h1 h2 ⊢
    omega
def ones : Nat → List Nat
  | 0 => []
  | k + 1 => ones k ++ [2 ^ k]
theorem ones_ok : ∀ k, (ones k).length = k ∧ (∀ g ∈ ones k, g < 2 ^ k ∧ g ≠ 0) ∧ ∀ m, cntB m (ones k) = if m < k then 1 else 0
  | 0 => ⟨rfl, by simp [ones], fun m => by simp [ones, cntB]⟩
  | k + 1 => by
    obtain ⟨h1, h2, h3⟩ := ones_ok k
    refine ⟨by simp [ones, h1], fun g hg => ?_, fun m => ?_⟩
    · rcases List.mem_append.1 hg with hg | hg
      · have := h2 g hg
        rw [Nat.pow_succ]
        omega
      · simp at hg
        have := Nat.two_pow_pos k
        rw [Nat.pow_succ]
        omega
    · unfold ones
      rw [cntB_snoc, h3, Nat.testBit_two_pow]
      by_cases h : m < k
      · have h1 : ¬ k = m := by omega
        have h2 : m < k + 1 := by omega
        simp [h, h1, h2]
      · by_cases h' : m = k
        · subst h'; simp
        · have h1 : ¬ k = m := by omega
          have h2 : ¬ m < k + 1 := by omega
          simp [h, h1, h2]
theorem comps_ex {N : Nat} {M : Int} {L : List Db} : DbOK N M L → ∃ G : List Nat, (∀ m, m < N → cntB m G = 1) ∧ (∀ g ∈ G, g < 2 ^ N ∧ g ≠ 0) ∧ (∀ g ∈ G, ∀ d ∈ L, g.testBit d.1.toNat = g.testBit d.2.1.toNat) ∧ N ≤ G.length + L.length := by
  refine snoc_ind (P := fun L => DbOK N M L → ∃ G : List Nat, (∀ m, m < N → cntB m G = 1) ∧ (∀ g ∈ G, g < 2 ^ N ∧ g ≠ 0) ∧ (∀ g ∈ G, ∀ d ∈ L, g.testBit d.1.toNat = g.testBit d.2.1.toNat) ∧ N ≤ G.length + L.length) ?_ ?_ L
  · intro _
    obtain ⟨h1, h2, h3⟩ := ones_ok N
    exact ⟨ones N, fun m hm => by rw [h3, if_pos hm], h2, fun g _ d hd => (by cases hd), by simp [h1]⟩
  · intro L d ih hL
    obtain ⟨G, h1, h2, h3, h4⟩ := ih (fun x hx => hL x (List.mem_append_left _ hx))
    have hd := hL d (by simp)
    obtain ⟨G', g1, g2, g3, g4, g5⟩ := merge_ex (P := fun g => g ≠ 0 ∧ ∀ d ∈ L, g.testBit d.1.toNat = g.testBit d.2.1.toNat) h1 (a := d.1.toNat) (b := d.2.1.toNat) (by omega) (by omega) (fun g hg => ⟨(h2 g hg).2, h3 g hg⟩)
      (fun x y hx hy _ => ⟨fun hz => hx.1 (by have := (sub_or_left (a := x) (b := y)).le; omega), fun e he => by rw [Nat.testBit_or, Nat.testBit_or, hx.2 e he, hy.2 e he]⟩) (fun g hg => (h2 g hg).1)
    refine ⟨G', g1, fun g hg => ⟨g3 g hg, (g2 g hg).1⟩, fun g hg e he => ?_, by rw [List.length_append, List.length_singleton]; omega⟩
    rcases List.mem_append.1 he with he | he
    · exact (g2 g hg).2 e he
    · simp at he; subst he; exact g4 g hg
/-- Drafts that settle a book are no fewer than mills, less groups. -/
theorem settle_least {N : Nat} {M : Int} {D L : List Db} (hL : DbOK N M L) (he : ∀ i, i < N → balF D i = balF L i) : (N : Int) ≤ topP N D + L.length := by
  obtain ⟨G, h1, h2, h3, h4⟩ := comps_ex hL
  have := parts_le (F := balF D) (N := N) (G := G) (fun g hg => ⟨(h2 g hg).1, ev_iff.2 ⟨(h2 g hg).2, by
    rw [sumF_congr he]
    exact bal_closed hL rfl (h3 g hg)⟩⟩) (fun m hm => by rw [h1 m hm]; omega)
  unfold topP
  omega
theorem draftE_ok {N : Nat} {D L : List Db} (hc : checkBook N D = 0) (h : draftE N D L = 0) : L.length ≤ 10 ∧ DbOK N 40000000 L ∧ ∀ i, i < 10 → balF D i = balF L i := by
  unfold draftE at h
  rw [if_neg (by simp [hc])] at h
  split at h
  · cases h
  · split at h
    · rename_i h1; exact absurd h h1
    · split at h
      · rename_i h1 h2 h3
        refine ⟨by omega, checkD_ok (by simpa using h2), rowF_inj.1 h3⟩
      · cases h
theorem drafts_least {N : Nat} {D L : List Db} (hc : checkBook N D = 0) (hN : N ≤ 10) (h : draftE N D L = 0) : (N : Int) - topP N D ≤ L.length := by
  obtain ⟨-, h1, h2⟩ := draftE_ok hc h
  have := settle_least h1 (fun i hi => h2 i (by omega))
  omega
end Go.Ab
