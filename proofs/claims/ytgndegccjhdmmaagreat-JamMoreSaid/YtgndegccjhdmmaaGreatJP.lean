/- A jam in which one more log holds a log. -/
import Derived.Test.YtgndegccjhdmmaaGreatJO
set_option linter.unusedVariables false
set_option linter.unusedSimpArgs false
set_option maxHeartbeats 4000000
set_option maxRecDepth 100000
namespace Go.Ab
open Go Go.Proofs

def hL (q : Nat → Bool) : Nat → List Int
  | 0 => []
  | k + 1 => if q k then hL q k ++ [(k : Int)] else hL q k
theorem hL_len {q} : ∀ {k}, (hL q k).length ≤ k
  | 0 => by simp [hL]
  | k + 1 => by
    have := hL_len (q := q) (k := k)
    simp only [hL]; split
    · rw [List.length_append]; simp; omega
    · omega
theorem hL_mem {q} {x : Int} : ∀ {k : Nat}, x ∈ hL q k ↔ ∃ j : Nat, j < k ∧ x = j ∧ q j = true
  | 0 => by simp [hL]
  | k + 1 => by
    have ih := hL_mem (q := q) (x := x) (k := k)
    simp only [hL]
    split
    · rename_i h
      rw [List.mem_append, ih, List.mem_singleton]
      constructor
      · rintro (⟨j, h1, h2, h3⟩ | rfl)
        · exact ⟨j, by omega, h2, h3⟩
        · exact ⟨k, by omega, rfl, h⟩
      · rintro ⟨j, h1, h2, h3⟩
        by_cases hj : j = k
        · exact .inr (by rw [h2, hj])
        · exact .inl ⟨j, by omega, h2, h3⟩
    · rename_i h
      rw [ih]
      constructor
      · rintro ⟨j, h1, h2, h3⟩; exact ⟨j, by omega, h2, h3⟩
      · rintro ⟨j, h1, h2, h3⟩
        by_cases hj : j = k
        · rw [hj] at h3; exact absurd h3 h
        · exact ⟨j, by omega, h2, h3⟩
theorem hL_sorted {q} : ∀ {k : Nat}, (hL q k).Pairwise (· < ·)
  | 0 => by simp [hL]
  | k + 1 => by
    have ih := hL_sorted (q := q) (k := k)
    simp only [hL]
    split
    · rw [List.pairwise_append]
      refine ⟨ih, by simp, fun a ha b hb => ?_⟩
      rw [List.mem_singleton] at hb
      obtain ⟨j, h1, h2, -⟩ := hL_mem.1 ha
      omega
    · exact ih
def qh (p : Lg) (by' : Nat) (n : Nat) : Bool := decide (n = by') || decide ((n : Int) ∈ p.2.1)
def heldP (J : List Lg) (p : Lg) (by' : Nat) : Lg := (p.1, hL (qh p by') J.length, (hL (qh p by') J.length).length == 0)
theorem lgV_set {J : List Lg} : ∀ {i : Nat} {p r : Lg}, J[i]? = some p → p.1 = r.1 → (lgV J).set (i * 2 + 1) (sl r.2.1 r.2.2) = lgV (J.set i r) := by
  induction J with
  | nil => intro i p r h; cases h
  | cons x J ih =>
    intro i p r h hk
    cases i with
    | zero =>
      simp at h
      subst h
      simp [lgV, hk]
    | succ i =>
      have := ih (i := i) (by simpa using h) hk
      rw [show (i + 1) * 2 + 1 = i * 2 + 1 + 1 + 1 by omega]
      simp only [lgV, List.set_cons_succ, this]
theorem jam54 {v : V} {σ : List O} (hv : cellsOf v = some [v]) : FSpec Tryz.prog 54 [v] σ (.agg [v]) (σ ++ [.row 0 [v]]) := by
  refine fn54.spec mixed noIt_ok ?_
  rw [ic54]
  refine ab_seq_k fun K1 h1 => ?_
  simp [hv]
  refine h1 _ _ _ ?_
  clear h1 K1
  refine ab_seq_k fun K2 h2 => ?_
  simp [hv]
  refine h2 _ _ _ ?_
  simp
  refine fin_all ?_
  simp [rs54]
theorem held51 {J : List Lg} {f : Bool} {i by' : Nat} {p : Lg} {σ : List O} (hN : J.length ≤ 16) (hp : J[i]? = some p) (hl : (p.2.1.length : Int) < 1000000000) : FSpec Tryz.prog 51 [jamV J f, .i .i64 i, .i .i64 by'] σ (jamV (J.set i (heldP J p by')) false) σ := by
  refine FSpec.frame (σ := σ) ?_ (by simp) (by simp)
  have hil : i < J.length := (List.getElem?_eq_some_iff.1 hp).1
  obtain ⟨-, g1, g2⟩ := lgV_get hp
  obtain ⟨hg2, g2'⟩ := List.getElem?_eq_some_iff.1 g2
  have hle : i * 2 + 2 ≤ J.length * 2 := by omega
  refine fn51.spec0 mixed noIt_ok ?_
  rw [ic51]
  refine ab_seq_k fun K1 h1 => ?_
  simp
  refine h1 _ _ _ ?_
  clear h1 K1
  refine ab_seq_k fun K2 h2 => ?_
  simp
  have hne : J ≠ [] := by rintro rfl; simp at hil
  rw [if_neg hne]
  refine ⟨by omega, callK_of (jam54 rfl) ?_⟩
  simp
  refine h2 _ _ _ ?_
  clear h2 K2
  refine ab_seq_k fun K3 h3 => ?_
  simp
  refine h3 _ _ _ ?_
  clear h3 K3
  refine ab_seq_k fun K4 h4 => ?_
  refine ab_seq_k fun K5 h5 => ?_
  simp
  refine h5 _ _ _ ?_
  clear h5 K5
  refine ab_block_k fun K6 h6 => ?_
  refine ab_loop_k (fun m env σ => ∃ (k : Nat) (v : V), k + m = J.length ∧ env = [(1, .i .i64 i), (2, .i .i64 by'), (3, .p 0 0 0), (6, .p 1 0 0), (7, .p 4 0 0), (8, v), (9, .i .i64 k)] ∧ σ[0]? = some (.row 0 [slJ J f]) ∧ σ[1]? = some (.row 0 [.ss [] 0 true]) ∧ σ[2]? = some (.row 0 (lgV J)) ∧ σ[4]? = some (.row 0 [.s 2 0 0 J.length 2]) ∧ Gr 5 1 σ v (hL (qh p by') k).length (ints (hL (qh p by') k))) J.length
    ⟨0, .ss [] 0 true, by omega, by simp, rfl, rfl, rfl, rfl, by simpa [hL, ints] using Gr.nil⟩ ?_
  rintro m env σ ⟨k, v, hk, rfl, s0, s1, s2, s4, hv⟩ K7 h7
  obtain ⟨hs0, s0'⟩ := List.getElem?_eq_some_iff.1 s0
  obtain ⟨hs1, s1'⟩ := List.getElem?_eq_some_iff.1 s1
  obtain ⟨hs2, s2'⟩ := List.getElem?_eq_some_iff.1 s2
  obtain ⟨hs4, s4'⟩ := List.getElem?_eq_some_iff.1 s4
  rw [ic51_0]
  refine ab_seq_k fun K8 h8 => ?_
  refine ab_seq_k fun K9 h9 => ?_
  simp [s0, s0']
  refine h9 _ _ _ ?_
  clear h9 K9
  refine ab_cond_of rfl (fun hc => ?_) (fun hc => ?_)
  · have hkl : k < J.length := by simpa using hc
    simp
    refine h8 _ _ _ ?_
    clear h8 K8
    refine ab_seq_k fun K10 h10 => ?_
    refine ab_block_k fun K11 h11 => ?_
    have hend : ∀ env σ v, get env 1 = .i .i64 i → get env 2 = .i .i64 by' → get env 3 = .p 0 0 0 → get env 6 = .p 1 0 0 → get env 7 = .p 4 0 0 → get env 8 = v → get env 9 = .i .i64 k → σ[0]? = some (.row 0 [slJ J f]) → σ[1]? = some (.row 0 [.ss [] 0 true]) → σ[2]? = some (.row 0 (lgV J)) → σ[4]? = some (.row 0 [.s 2 0 0 J.length 2]) → Gr 5 1 σ v (hL (qh p by') (k + 1)).length (ints (hL (qh p by') (k + 1))) → K11 (some 0) env σ := by
      intro env σ v w1 w2 w3 w6 w7 w8 w9 a0 a1 a2 a4 hg
      refine h11 _ _ _ (h10 _ _ _ ?_)
      simp [w1, w2, w3, w6, w7, w8, w9, wrap64 (x := (k : Int) + 1) (by omega) (by omega)]
      exact h7 _ _ _ (again (m - 1) (by omega) ⟨k + 1, v, by omega, by simp, a0, a1, a2, a4, hg⟩)
    clear h10 h11 h7
    have hlen := hL_len (q := qh p by') (k := k)
    refine ab_seq_k fun K12 h12 => ?_
    have hK12 : ∀ env c, get env 1 = .i .i64 i → get env 2 = .i .i64 by' → get env 3 = .p 0 0 0 → get env 6 = .p 1 0 0 → get env 7 = .p 4 0 0 → get env 8 = v → get env 9 = .i .i64 k → get env 34 = .b c → c = qh p by' k → K12 (some 0) env σ := by
      intro env c w1 w2 w3 w6 w7 w8 w9 w hc
      refine h12 _ _ _ ?_
      clear h12 K12
      cases c with
      | false =>
        refine ab_cond_of w (fun h => by cases h) (fun _ => ?_)
        simp [w1, w2, w3, w6, w7, w8, w9]
        exact hend _ _ _ w1 w2 w3 w6 w7 w8 w9 s0 s1 s2 s4 (by simpa [hL, ← hc] using hv)
      | true =>
        refine ab_cond_of w (fun _ => ?_) (fun h => by cases h)
        simp [w1, w2, w3, w6, w7, w8, w9]
        refine appG hv (by omega) (by omega) (by omega) rfl ?_
        intro v' σ' hv' hgr
        have hbid : ∀ j, j < 5 → idOf v ≠ some j := fun j hj e => by have := (hv.id_ge e).1; omega
        simp [w1, w2, w3, w6, w7, w8, w9]
        exact hend _ _ _ rfl rfl rfl rfl rfl rfl rfl (hgr.get (hbid 0 (by omega)) s0) (hgr.get (hbid 1 (by omega)) s1) (hgr.get (hbid 2 (by omega)) s2) (hgr.get (hbid 4 (by omega)) s4) (by simpa [hL, ← hc, ints] using hv')
    clear h12 hend
    by_cases hkb : k = by'
    · simp [hkb, s0, s0']
      subst hkb
      exact hK12 _ _ rfl rfl rfl rfl rfl rfl rfl rfl (by simp [qh])
    · have hkb' : ¬ (k : Int) = (by' : Int) := by omega
      simp [hkb, hkb', s0, s0', hil, hle, g2, g2']
      refine callK_of (has53 hl) ?_
      simp
      exact hK12 _ _ rfl rfl rfl rfl rfl rfl rfl rfl (by simp [qh, hkb])
  · have hkl : k = J.length := by simp at hc; omega
    subst hkl
    simp
    refine h6 _ _ _ (h4 _ _ _ ?_)
    clear h4 h6 h7 h8
    have hi2 : i * 2 + 1 < (lgV J).length := hg2
    refine ab_seq_k fun K20 h20 => ?_
    simp [s4, s4', s2, s2', hil, hle]
    refine ⟨by omega, hv.one, h20 _ _ _ ?_⟩
    clear h20 K20
    have u1 : (σ.set 2 (O.row 0 ((lgV J).set (i * 2 + 1) v)))[1]? = some (.row 0 [.ss [] 0 true]) := by rw [List.getElem?_set_ne (by omega)]; exact s1
    have u4 : (σ.set 2 (O.row 0 ((lgV J).set (i * 2 + 1) v)))[4]? = some (.row 0 [.s 2 0 0 J.length 2]) := by rw [List.getElem?_set_ne (by omega)]; exact s4
    have u2 : (σ.set 2 (O.row 0 ((lgV J).set (i * 2 + 1) v)))[2]? = some (.row 0 ((lgV J).set (i * 2 + 1) v)) := List.getElem?_set_self hs2
    have ug := hv.setlt (i := 2) (o := O.row 0 ((lgV J).set (i * 2 + 1) v)) (by omega)
    generalize σ.set 2 (O.row 0 ((lgV J).set (i * 2 + 1) v)) = U at *
    obtain ⟨hu1, u1'⟩ := List.getElem?_eq_some_iff.1 u1
    obtain ⟨hu4, u4'⟩ := List.getElem?_eq_some_iff.1 u4
    refine ab_seq_k fun K21 h21 => ?_
    simp [u1, u1', u4, u4']
    refine h21 _ _ _ ?_
    clear h21 K21
    have w1 : (U.set 1 (O.row 0 [V.s 2 0 0 J.length 2]))[1]? = some (.row 0 [V.s 2 0 0 J.length 2]) := List.getElem?_set_self hu1
    have w2 : (U.set 1 (O.row 0 [V.s 2 0 0 J.length 2]))[2]? = some (.row 0 ((lgV J).set (i * 2 + 1) v)) := by rw [List.getElem?_set_ne (by omega)]; exact u2
    have wg := ug.setlt (i := 1) (o := O.row 0 [V.s 2 0 0 J.length 2]) (by omega)
    generalize U.set 1 (O.row 0 [V.s 2 0 0 J.length 2]) = X at *
    obtain ⟨hw1, w1'⟩ := List.getElem?_eq_some_iff.1 w1
    have hfz : frz 3 0 X (.s 2 0 0 J.length 2) = slJ (J.set i (heldP J p by')) false := by
      rw [frz]
      simp only [V.pure, Bool.false_eq_true, if_false, Nat.not_lt_zero, w2]
      rw [if_pos ⟨trivial, by simp⟩]
      rw [List.drop_zero, List.take_of_length_le (by simp), List.map_set, map_frz pure_lgV, frz_G wg (by simp)]
      show V.ss ((lgV J).set (i * 2 + 1) (sl (heldP J p by').2.1 (heldP J p by').2.2)) _ _ = _
      rw [lgV_set (r := heldP J p by') hp rfl]
      simp [slJ]
    simp
    refine fin_of 4 ?_
    simp [-frz, rs51, w1, w1']
    rw [frz]
    simp only [V.pure, pureL, Bool.false_and, Bool.false_eq_true, if_false, List.map_cons, List.map_nil, hfz]
end Go.Ab
