/- Fewest drafts, both. -/
import Derived.Test.YtgaijhpekajflaaSO
set_option linter.unusedVariables false
set_option linter.unusedSimpArgs false
set_option maxHeartbeats 4000000
set_option maxRecDepth 100000
namespace Go.Ab
open Go Go.Proofs

theorem sumF_congr {F G : Nat → Int} {s : Nat} : ∀ {m : Nat}, (∀ i, i < m → F i = G i) → sumF F s m = sumF G s m
  | 0, _ => rfl
  | m + 1, h => by simp only [sumF]; rw [sumF_congr (fun i hi => h i (by omega)), h m (by omega)]
theorem sumF_add {F G : Nat → Int} {s : Nat} : ∀ {m : Nat}, sumF (fun i => F i + G i) s m = sumF F s m + sumF G s m
  | 0 => rfl
  | m + 1 => by
    simp only [sumF]
    rw [sumF_add]
    split <;> omega
theorem sumF_dlt {d : Db} {s : Nat} (h1 : 0 ≤ d.1) (h2 : 0 ≤ d.2.1) : ∀ {m : Nat}, sumF (dlt d) s m = (if s.testBit d.2.1.toNat = true ∧ d.2.1.toNat < m then d.2.2 else 0) - (if s.testBit d.1.toNat = true ∧ d.1.toNat < m then d.2.2 else 0)
  | 0 => by simp [sumF]
  | m + 1 => by
    simp only [sumF]
    rw [sumF_dlt h1 h2]
    unfold dlt
    have e1 : (d.2.1 = (m : Int)) = (d.2.1.toNat = m) := by rw [eq_iff_iff]; omega
    have e2 : (d.1 = (m : Int)) = (d.1.toNat = m) := by rw [eq_iff_iff]; omega
    simp only [e1, e2]
    generalize d.2.1.toNat = a
    generalize d.1.toNat = b
    by_cases ha : a = m <;> by_cases hb : b = m
    · subst ha; subst hb
      cases s.testBit b <;> simp
    · subst ha
      have : (b < a + 1) = (b < a) := by rw [eq_iff_iff]; omega
      simp only [this]
      cases s.testBit a <;> simp [hb] <;> omega
    · subst hb
      have : (a < b + 1) = (a < b) := by rw [eq_iff_iff]; omega
      simp only [this]
      cases s.testBit b <;> simp [ha] <;> omega
    · have e3 : (a < m + 1) = (a < m) := by rw [eq_iff_iff]; omega
      have e4 : (b < m + 1) = (b < m) := by rw [eq_iff_iff]; omega
      simp only [e3, e4]
      simp [ha, hb]
theorem snoc_ind {α : Type} {P : List α → Prop} (h0 : P []) (h1 : ∀ l a, P l → P (l ++ [a])) (l : List α) : P l := by
  rw [← List.reverse_reverse l]
  induction l.reverse with
  | nil => exact h0
  | cons a r ih => rw [List.reverse_cons]; exact h1 _ _ ih
theorem balF_nil {i : Nat} : balF [] i = 0 := rfl
/-- A set that holds both ends of all debts, or none, is even. -/
theorem bal_closed {n M : Int} {N : Nat} {s : Nat} : ∀ {D : List Db}, DbOK n M D → n = (N : Int) → (∀ d ∈ D, s.testBit d.1.toNat = s.testBit d.2.1.toNat) → sumF (balF D) s N = 0 := by
  intro D
  refine snoc_ind (P := fun D => DbOK n M D → n = (N : Int) → (∀ d ∈ D, s.testBit d.1.toNat = s.testBit d.2.1.toNat) → sumF (balF D) s N = 0) ?_ ?_ D
  · intro _ _ _; exact sumF_zero fun i _ => rfl
  · clear D
    intro D d ih hD hn h
    have h1 := ih (fun x hx => hD x (List.mem_append_left _ hx)) hn (fun x hx => h x (List.mem_append_left _ hx))
    have hd := hD d (by simp)
    have e : sumF (balF (D ++ [d])) s N = sumF (balF D) s N + sumF (dlt d) s N := by
      rw [← sumF_add]
      exact sumF_congr fun i _ => balF_snoc
    have a : d.1.toNat < N := by have := hd.1; omega
    have b : d.2.1.toNat < N := by have := hd.2.1; omega
    rw [e, h1, sumF_dlt hd.1.1 hd.2.1.1, h d (by simp)]
    simp only [a, b, and_true]
    omega
theorem bal_all {n M : Int} {N : Nat} {D : List Db} (hD : DbOK n M D) (hn : n = (N : Int)) : sumF (balF D) (2 ^ N - 1) N = 0 :=
  bal_closed hD hn fun d hd => by
    have := hD d hd
    rw [Nat.testBit_two_pow_sub_one, Nat.testBit_two_pow_sub_one]
    have a : d.1.toNat < N := by omega
    have b : d.2.1.toNat < N := by omega
    simp [a, b]
/-- How many groups there can be. -/
def topP (N : Nat) (D : List Db) : Int := prP (balF D) N (2 ^ N - 1)
theorem topP_b {N : Nat} {D : List Db} : 0 ≤ topP N D ∧ topP N D ≤ N := ⟨prP_nn, prP_le (by have := Nat.two_pow_pos N; omega)⟩
theorem topP_most {n M : Int} {N W : Nat} {D : List Db} {L : List Int} (hW : 2 ^ N = W) (hN : N ≤ 10) (hD : DbOK n M D) (hn : n = (N : Int)) (hL : IsMost (evF (balF D) N) W L) : gL L (W - 1) = topP N D := by
  subst hW
  exact most_price hN hL (by have := Nat.two_pow_pos N; omega) (bal_all hD hn)
def fewP (n : Int) (D : List Db) : Int × Int := if checkBook n D = 0 then (n - topP n.toNat D, 0) else (0, checkBook n D)
theorem fewest26 {n : Int} {D : List Db} {f : Bool} (hl : (D.length : Int) < 9223372036854775808) : FSpec Try.prog 26 [bookV n D f] [] (pairV (fewP n D)) [] := by
  refine fn26.spec0 mixed noIt_ok ?_
  rw [ic26]
  have hO := fun σ => FSpec.frame (σ := σ) (open61 (n := n) (D := D) (f := f) hl) (by simp) openV_pure
  refine ab_seq_k fun K1 h1 => ?_
  simp
  refine h1 _ _ _ ?_
  clear h1 K1
  by_cases hc : checkBook n D = 0
  case neg =>
    have e : openV n D f = .tup [.np, .i .i64 (checkBook n D)] := by simp [openV, hc]
    rw [e] at hO
    refine ab_seq_k fun K2 h2 => ?_
    simp [take_bookC]
    refine callK_of (hO _) ?_
    simp [take_bookC]
    refine h2 _ _ _ ?_
    clear h2 K2
    refine ab_seq_k fun K3 h3 => ?_
    refine ab_seq_k fun K4 h4 => ?_
    simp
    refine h4 _ _ _ ?_
    clear h4 K4
    refine ab_cond_of rfl (fun _ => ?_) (fun h => by simp [hc] at h)
    refine ab_seq_k fun K5 h5 => ?_
    simp
    refine h5 _ _ _ ?_
    clear h5 K5
    simp
    exact fin_of 1 (by simp [rs26, pairV, fewP, hc])
  obtain ⟨N, rfl, hN1, hN, hlen, hD⟩ := book_nat hc
  have e : openV N D f = .tup [ledT N D f, .i .i64 0] := by simp [openV, hc]
  rw [e] at hO
  have hA : ∀ σ, FSpec Try.prog 63 [ledT N D f] σ (.i .i64 (((2 ^ N : Nat) : Int) - 1)) σ := fun σ => all63 hN rfl
  have hM : ∀ σ, FSpec Try.prog 62 [ledT N D f, .i .i64 ((2 ^ N - 1 : Nat) : Int)] σ (.i .i64 (topP N D)) σ := fun σ => by
    have hp := pow_small hN
    have := most62 (n := N) (D := D) (f := f) (F := balF D) (ev := .sm ((mpV (evens (balF D) N)).map (·.2))) (fp := false) (P := prL (evF (balF D) N) N (2 ^ N)) (s := 2 ^ N - 1) (σ := σ) (by rw [prL_len]; omega)
    exact this
  have hp := pow_small hN
  rw [show (((2 ^ N - 1 : Nat) : Int)) = ((2 ^ N : Nat) : Int) - 1 by omega] at hM
  have htb := topP_b (N := N) (D := D)
  generalize hT : topP N D = T at *
  generalize ((2 ^ N : Nat) : Int) - 1 = w at *
  clear e
  have hpt : (ledT N D f).pure = true := pure_ledT
  generalize ledT N D f = lt at *
  refine ab_seq_k fun K2 h2 => ?_
  simp [take_bookC]
  refine callK_of (hO _) ?_
  simp [take_bookC]
  refine h2 _ _ _ ?_
  clear h2 K2
  refine ab_seq_k fun K3 h3 => ?_
  refine ab_seq_k fun K4 h4 => ?_
  simp
  refine h4 _ _ _ ?_
  clear h4 K4
  refine ab_cond_of rfl (fun h => by cases h) (fun _ => ?_)
  simp
  refine h3 _ _ _ ?_
  clear h3 K3
  refine ab_seq_k fun K5 h5 => ?_
  simp [abDs_consU, drU, recheck_cons, recheck_nil, rcK, IS.dst, get0_bookC]
  refine callK_of (hA _) ?_
  simp [abDs_consU, drU, recheck_cons, recheck_nil, rcK, IS.dst, get0_bookC]
  refine callK_of (hM _) ?_
  simp [abDs_consU, drU, recheck_cons, recheck_nil, rcK, IS.dst, get0_bookC, wrap64 (x := (N : Int) - T) (by omega) (by omega)]
  refine h5 _ _ _ ?_
  simp
  exact fin_of 1 (by simp [rs26, pairV, fewP, hc, hT])
theorem fewest27 {n : Int} {D : List Db} {f : Bool} (hl : (D.length : Int) < 9223372036854775808) : FSpec Try.prog 27 [bookV n D f] [] (pairV (fewP n D)) [] := by
  refine fn27.spec0 mixed noIt_ok ?_
  rw [ic27]
  have hB := fun σ => FSpec.frame (σ := σ) (refBook (n := n) (D := D) (f := f) hl) (by simp) rfl
  refine ab_seq_k fun K1 h1 => ?_
  simp
  refine h1 _ _ _ ?_
  clear h1 K1
  refine ab_seq_k fun K2 h2 => ?_
  refine ab_seq_k fun K3 h3 => ?_
  simp [take_bookC]
  refine callK_of (hB _) ?_
  simp [take_bookC]
  refine h3 _ _ _ ?_
  clear h3 K3
  by_cases hc : checkBook n D = 0
  case neg =>
    refine ab_cond_of rfl (fun _ => ?_) (fun h => by simp [hc] at h)
    refine ab_seq_k fun K5 h5 => ?_
    simp [take_bookC]
    refine callK_of (hB _) ?_
    simp [take_bookC]
    refine h5 _ _ _ ?_
    clear h5 K5
    simp
    exact fin_of 1 (by simp [rs27, pairV, fewP, hc])
  refine ab_cond_of rfl (fun h => by simp [hc] at h) (fun _ => ?_)
  obtain ⟨N, rfl, hN1, hN, hlen, hD⟩ := book_nat hc
  simp
  refine h2 _ _ _ ?_
  clear h2 K2
  obtain ⟨L, hL, hLb, hM0⟩ := most32 (f := f) hN rfl hD hlen
  have hM := fun σ => FSpec.frame (σ := σ) hM0 (by simp) (by simp)
  have hA := fun σ => FSpec.frame (σ := σ) (all33 (D := D) (f := f) hN rfl) (by simp) rfl
  have hT := topP_most rfl hN hD rfl hL
  have hp := pow_small hN
  have htb := topP_b (N := N) (D := D)
  have hLl := hL.len
  clear hM0
  generalize hW : 2 ^ N = W at *
  have hg := o_some (o := L) (j := W - 1) (by omega)
  have hgl : L.getD (W - 1) 0 = topP N D := hT
  rw [hgl] at hg
  obtain ⟨hg1, hg'⟩ := List.getElem?_eq_some_iff.1 hg
  have hw : (((W : Int) - 1).toNat) = W - 1 := by omega
  refine ab_seq_k fun K5 h5 => ?_
  simp [abDs_consU, drU, recheck_cons, recheck_nil, rcK, IS.dst, get0_bookC, take_bookC]
  refine callK_of (hM _) ?_
  simp [abDs_consU, drU, recheck_cons, recheck_nil, rcK, IS.dst, get0_bookC, take_bookC]
  refine callK_of (hA _) ?_
  simp [abDs_consU, drU, recheck_cons, recheck_nil, rcK, IS.dst, get0_bookC, take_bookC, hw, hg, hg', wrap64 (x := (N : Int) - topP N D) (by omega) (by omega)]
  refine ⟨by omega, by omega, ?_⟩
  refine h5 _ _ _ ?_
  simp
  exact fin_of 1 (by simp [rs27, pairV, fewP, hc])
end Go.Ab
