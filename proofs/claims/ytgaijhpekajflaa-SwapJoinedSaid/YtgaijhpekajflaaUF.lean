/- Apart, both; the law SwapApart. -/
import Derived.Test.YtgaijhpekajflaaUW
set_option linter.unusedVariables false
set_option linter.unusedSimpArgs false
set_option maxHeartbeats 4000000
set_option maxRecDepth 100000
namespace Go.Ab
open Go Go.Proofs

section
variable {F : Nat → Int} {N : Nat}
theorem or_assoc' {a b c : Nat} : a ||| b ||| c = a ||| (b ||| c) := Nat.or_assoc ..
/-- Even sets apart have together no lesser price. -/
theorem prP_super (hN : N ≤ 10) : ∀ B A, A < 2 ^ N → B < 2 ^ N → A &&& B = 0 → sumF F B N = 0 → prP F N A + prP F N B ≤ prP F N (A ||| B) := by
  obtain ⟨L, hL, -⟩ := most_ex (ev := evF F N) (W := 2 ^ N) (Nat.two_pow_pos N)
  intro B
  induction B using Nat.strongRecOn with
  | _ B ih =>
    intro A hA hB hd he
    by_cases hz : B = 0
    · subst hz; rw [prP_zero, Nat.or_zero]; omega
    have hBv := most_price hN hL hB he
    have hpos : 1 ≤ prP F N B := by
      obtain ⟨i, -, e⟩ := prP_at (F := F) hB hz
      rw [ev_iff.2 ⟨hz, he⟩, if_pos rfl] at e
      have := prP_nn (F := F) (N := N) (s := drop1 B i)
      omega
    rcases (hL.best B (by omega) hB).at_ with e | ⟨q, hq, e⟩
    · omega
    · have hqs := less_sub hq.sub
      have hql := hq.sub.le
      have hqz := hq.nz
      have hev : sumF F (less B q) N = 0 := by
        have := sumF_less (F := F) (m := N) hq.sub
        rw [he, (ev_iff.1 hq.even).2] at this
        omega
      have hd1 : A &&& less B q = 0 := dis_bit.2 fun i ⟨x, y⟩ => by
        rw [less_bit, Bool.and_eq_true] at y
        exact dis_bit.1 hd i ⟨x, y.1⟩
      have h1 := ih (less B q) (by omega) A hA (by omega) hd1 hev
      have hv := most_price hN hL (s := less B q) (by omega) hev
      have hd2 : (A ||| less B q) &&& q = 0 := dis_bit.2 fun i ⟨x, y⟩ => by
        rw [Nat.testBit_or, Bool.or_eq_true, less_bit] at x
        rcases x with x | x
        · exact dis_bit.1 hd i ⟨x, sub_iff.1 hq.sub i y⟩
        · rw [y] at x; simp at x
      have h2 := price_more (F := F) (A ||| less B q) q (lt_or hA (by omega)) (by omega) hd2 hq.even
      have e2 : A ||| less B q ||| q = A ||| B := by
        rw [or_assoc', Nat.or_comm (less B q) q, less_or hq.sub]
      rw [e2] at h2
      rw [← hqs] at e
      omega
end
/-- How many more drafts. -/
def apP (n : Int) (D : List Db) (s : Int) : Int × Int :=
  if checkBook n D ≠ 0 then (0, checkBook n D) else if fit 1 (((2 ^ n.toNat : Nat) : Int) - 1) s = false then (0, 3) else if sumF (balF D) s.toNat n.toNat ≠ 0 then (0, 14)
  else (topP n.toNat D - prP (balF D) n.toNat s.toNat - prP (balF D) n.toNat (2 ^ n.toNat - 1 - s.toNat), 0)
theorem apart37 {n : Int} {D : List Db} {f : Bool} {s : Int} (hl : (D.length : Int) < 9223372036854775808) : FSpec Try.prog 37 [bookV n D f, .i .i64 s] [] (pairV (apP n D s)) [] := by
  refine fn37.spec0 mixed noIt_ok ?_
  rw [ic37]
  have hO := fun σ => FSpec.frame (σ := σ) (open61 (n := n) (D := D) (f := f) hl) (by simp) openV_pure
  refine ab_seq_k fun K1 h1 => ?_
  simp
  refine h1 _ _ _ ?_
  clear h1 K1
  by_cases hc : checkBook n D = 0
  case neg =>
    have e : openV n D f = .tup [.np, .i .i64 (checkBook n D)] := by simp [openV, hc]
    rw [e] at hO
    refine ab_seq_k fun K2 h2 => ?_
    simp [take_bookC]
    refine callK_of (hO _) ?_
    simp [take_bookC]
    refine h2 _ _ _ ?_
    clear h2 K2
    refine ab_seq_k fun K3 h3 => ?_
    refine ab_block_k fun K4 h4 => ?_
    refine ab_seq_k fun K5 h5 => ?_
    simp
    refine h5 _ _ _ ?_
    clear h5 K5
    refine ab_cond_of rfl (fun _ => ?_) (fun h => by simp [hc] at h)
    refine ab_seq_k fun K6 h6 => ?_
    simp
    refine h6 _ _ _ ?_
    clear h6 K6
    simp
    exact fin_of 1 (by simp [rs37, pairV, apP, hc])
  obtain ⟨N, rfl, hN1, hN, hlen, hD⟩ := book_nat hc
  have e : openV N D f = .tup [ledT N D f, .i .i64 0] := by simp [openV, hc]
  rw [e] at hO
  have hp := pow_small hN
  have hA : ∀ σ, FSpec Try.prog 63 [ledT N D f] σ (.i .i64 (((2 ^ N : Nat) : Int) - 1)) σ := fun σ => all63 hN rfl
  have hev : ∀ s : Nat, s < 2 ^ N → ∀ σ, FSpec Try.prog 69 [ledT N D f, .i .i64 s] σ (.b (evF (balF D) N s)) σ := fun s hs σ => by
    have := even69 (n := N) (D := D) (f := f) (F := balF D) (prs := sl (prL (evF (balF D) N) N (2 ^ N)) false) (E := evens (balF D) N) (s := s) (σ := σ) evens_len (by simp)
    rw [evB_is hs] at this
    exact this
  have hM : ∀ s : Nat, s < 2 ^ N → ∀ σ, FSpec Try.prog 62 [ledT N D f, .i .i64 s] σ (.i .i64 (prP (balF D) N s)) σ := fun s hs σ => by
    have := most62 (n := N) (D := D) (f := f) (F := balF D) (ev := .sm ((mpV (evens (balF D) N)).map (·.2))) (fp := false) (P := prL (evF (balF D) N) N (2 ^ N)) (s := s) (σ := σ) (by rw [prL_len]; exact hs)
    exact this
  have hpb : ∀ s : Nat, s < 2 ^ N → 0 ≤ prP (balF D) N s ∧ prP (balF D) N s ≤ 10 := fun s hs => ⟨prP_nn, by have := prP_le (F := balF D) hs; omega⟩
  have hap : apP N D s = if fit 1 (((2 ^ N : Nat) : Int) - 1) s = false then (0, 3) else if sumF (balF D) s.toNat N ≠ 0 then (0, 14) else (prP (balF D) N (2 ^ N - 1) - prP (balF D) N s.toNat - prP (balF D) N (2 ^ N - 1 - s.toNat), 0) := by
    unfold apP
    rw [if_neg (by simp [hc])]
    rfl
  have hpt : (ledT N D f).pure = true := pure_ledT
  generalize balF D = F at *
  generalize hW : 2 ^ N = W at *
  clear hW e
  generalize ledT N D f = lt at *
  refine ab_seq_k fun K2 h2 => ?_
  simp [take_bookC]
  refine callK_of (hO _) ?_
  simp [take_bookC]
  refine h2 _ _ _ ?_
  clear h2 K2
  refine ab_seq_k fun K3 h3 => ?_
  refine ab_block_k fun K4 h4 => ?_
  refine ab_seq_k fun K5 h5 => ?_
  simp
  refine h5 _ _ _ ?_
  clear h5 K5
  refine ab_cond_of rfl (fun h => by cases h) (fun _ => ?_)
  refine ab_seq_k fun K6 h6 => ?_
  have hK : ∀ env c, get env 1 = .i .i64 s → get env 6 = lt → get env 17 = .b c → c = !fit 1 ((W : Int) - 1) s → K6 (some 0) env [O.row 0 (bookC N D f)] := by
    intro env c w1 w6 w17 hcv
    refine h6 _ _ _ ?_
    clear h6 K6
    refine ab_cond_of w17 (fun hb => ?_) (fun hb => ?_)
    · have hfit : fit 1 ((W : Int) - 1) s = false := by rw [hcv] at hb; simpa using hb
      refine ab_seq_k fun K7 h7 => ?_
      simp
      refine h7 _ _ _ ?_
      clear h7 K7
      simp
      exact fin_of 1 (by rw [hap, if_pos hfit]; simp [rs37, pairV])
    · have hfit : fit 1 ((W : Int) - 1) s = true := by rw [hcv] at hb; simpa using hb
      have hfit2 := hfit
      unfold fit at hfit2
      simp only [Bool.and_eq_true, decide_eq_true_eq] at hfit2
      obtain ⟨t, rfl⟩ : ∃ t : Nat, s = (t : Int) := ⟨s.toNat, by omega⟩
      have htW : t < W := by omega
      rw [if_neg (by rw [hfit]; simp), Int.toNat_natCast] at hap
      refine ab_seq_k fun K8 h8 => ?_
      simp [w1, w6]
      refine callK_of (hev t htW _) ?_
      simp [w1, w6]
      refine h8 _ _ _ ?_
      clear h8 K8
      by_cases hz : sumF F t N = 0
      · have hevt : evF F N t = true := ev_iff.2 ⟨by omega, hz⟩
        rw [if_neg (by simp [hz])] at hap
        rw [hevt]
        refine ab_cond_of rfl (fun h => by cases h) (fun _ => ?_)
        simp
        refine h4 _ _ _ ?_
        refine h3 _ _ _ ?_
        have m1 := hM (W - 1) (by omega)
        have m2 := hM t htW
        have m3 := hM (W - 1 - t) (by omega)
        have b1 := hpb (W - 1) (by omega)
        have b2 := hpb t htW
        have b3 := hpb (W - 1 - t) (by omega)
        rw [show (((W - 1 : Nat) : Int)) = (W : Int) - 1 by omega] at m1
        rw [show (((W - 1 - t : Nat) : Int)) = (W : Int) - 1 - t by omega] at m3
        generalize prP F N (W - 1) = x1 at *
        generalize prP F N t = x2 at *
        generalize prP F N (W - 1 - t) = x3 at *
        refine ab_seq_k fun K9 h9 => ?_
        simp
        refine callK_of (hA _) ?_
        simp
        refine callK_of (m1 _) ?_
        simp
        refine callK_of (m2 _) ?_
        simp
        refine callK_of (hA _) ?_
        simp [wrap64 (x := (W : Int) - 1 - t) (by omega) (by omega)]
        refine callK_of (m3 _) ?_
        simp [wrap64 (x := x1 - x2) (by omega) (by omega), wrap64 (x := x1 - x2 - x3) (by omega) (by omega)]
        refine h9 _ _ _ ?_
        simp
        exact fin_of 1 (by rw [hap]; simp [rs37, pairV])
      · have hevt : evF F N t = false := by
          cases q : evF F N t with
          | false => rfl
          | true => exact absurd (ev_iff.1 q).2 hz
        rw [if_pos hz] at hap
        rw [hevt]
        refine ab_cond_of rfl (fun _ => ?_) (fun h => by cases h)
        refine ab_seq_k fun K10 h10 => ?_
        simp
        refine h10 _ _ _ ?_
        clear h10 K10
        simp
        exact fin_of 1 (by rw [hap]; simp [rs37, pairV])
  by_cases c1 : s < 1
  · simp [c1]
    exact hK _ _ rfl rfl rfl (by rw [fit_not]; simp [c1])
  · simp [c1]
    refine callK_of (hA _) ?_
    simp [c1]
    exact hK _ _ rfl rfl rfl (by rw [fit_not]; simp [c1])
theorem apart38 {n : Int} {D : List Db} {f : Bool} {s : Int} (hl : (D.length : Int) < 9223372036854775808) : FSpec Try.prog 38 [bookV n D f, .i .i64 s] [] (pairV (apP n D s)) [] := by
  refine fn38.spec0 mixed noIt_ok ?_
  rw [ic38]
  have hB := fun σ => FSpec.frame (σ := σ) (refBook (n := n) (D := D) (f := f) hl) (by simp) rfl
  refine ab_seq_k fun K1 h1 => ?_
  simp
  refine h1 _ _ _ ?_
  clear h1 K1
  refine ab_seq_k fun K2 h2 => ?_
  refine ab_seq_k fun K3 h3 => ?_
  simp [take_bookC]
  refine callK_of (hB _) ?_
  simp [take_bookC]
  refine h3 _ _ _ ?_
  clear h3 K3
  by_cases hc : checkBook n D = 0
  case neg =>
    refine ab_cond_of rfl (fun _ => ?_) (fun h => by simp [hc] at h)
    refine ab_seq_k fun K5 h5 => ?_
    simp [take_bookC]
    refine callK_of (hB _) ?_
    simp [take_bookC]
    refine h5 _ _ _ ?_
    clear h5 K5
    simp
    exact fin_of 1 (by simp [rs38, pairV, apP, hc])
  refine ab_cond_of rfl (fun h => by simp [hc] at h) (fun _ => ?_)
  obtain ⟨N, rfl, hN1, hN, hlen, hD⟩ := book_nat hc
  simp
  refine h2 _ _ _ ?_
  clear h2 K2
  have hp := pow_small hN
  have hA := fun σ => FSpec.frame (σ := σ) (all33 (D := D) (f := f) hN rfl) (by simp) rfl
  have hS := fun (s : Nat) (hs : s < 9223372036854775808) σ => FSpec.frame (σ := σ) (sum50 (f := f) (s := s) hN hD hlen hs) (by simp) rfl
  obtain ⟨L, hL, hLb, hM0⟩ := most32 (f := f) hN rfl hD hlen
  have hM := fun σ => FSpec.frame (σ := σ) hM0 (by simp) (by simp)
  have hpr : ∀ s, s < 2 ^ N → sumF (balF D) s N = 0 → L[s]? = some (prP (balF D) N s) := fun s hs he => by
    rw [← most_price hN hL hs he]
    exact o_some (o := L) (j := s) (by rw [hL.len]; exact hs)
  have hall : sumF (balF D) (2 ^ N - 1) N = 0 := bal_all hD rfl
  have hrest : ∀ s, s < 2 ^ N → sumF (balF D) s N = 0 → sumF (balF D) (2 ^ N - 1 - s) N = 0 := fun s hs he => by
    have hsub : Sub s (2 ^ N - 1) := sub_iff.2 fun i hi => by rw [Nat.testBit_two_pow_sub_one]; simp; exact bit_lt hs hi
    have := sumF_less (F := balF D) (m := N) hsub
    rw [less_sub hsub, hall, he] at this
    omega
  have hpb : ∀ s : Nat, s < 2 ^ N → 0 ≤ prP (balF D) N s ∧ prP (balF D) N s ≤ 10 := fun s hs => ⟨prP_nn, by have := prP_le (F := balF D) hs; omega⟩
  have hap : apP N D s = if fit 1 (((2 ^ N : Nat) : Int) - 1) s = false then (0, 3) else if sumF (balF D) s.toNat N ≠ 0 then (0, 14) else (prP (balF D) N (2 ^ N - 1) - prP (balF D) N s.toNat - prP (balF D) N (2 ^ N - 1 - s.toNat), 0) := by
    unfold apP
    rw [if_neg (by simp [hc])]
    rfl
  have hLl := hL.len
  clear hM0 hL hLb
  generalize balF D = F at *
  generalize hW : 2 ^ N = W at *
  clear hW
  refine ab_seq_k fun K6 h6 => ?_
  refine ab_seq_k fun K7 h7 => ?_
  have hK : ∀ env c, get env 1 = .i .i64 s → get env 2 = .p 0 0 0 → get env 19 = .b c → c = !fit 1 ((W : Int) - 1) s → K7 (some 0) env [O.row 0 (bookC N D f)] := by
    intro env c w1 w2 w19 hcv
    refine h7 _ _ _ ?_
    clear h7 K7
    refine ab_cond_of w19 (fun hb => ?_) (fun hb => ?_)
    · have hfit : fit 1 ((W : Int) - 1) s = false := by rw [hcv] at hb; simpa using hb
      refine ab_seq_k fun K8 h8 => ?_
      simp
      refine h8 _ _ _ ?_
      clear h8 K8
      simp
      exact fin_of 1 (by rw [hap, if_pos hfit]; simp [rs38, pairV])
    · have hfit : fit 1 ((W : Int) - 1) s = true := by rw [hcv] at hb; simpa using hb
      have hfit2 := hfit
      unfold fit at hfit2
      simp only [Bool.and_eq_true, decide_eq_true_eq] at hfit2
      obtain ⟨t, rfl⟩ : ∃ t : Nat, s = (t : Int) := ⟨s.toNat, by omega⟩
      have htW : t < W := by omega
      rw [if_neg (by rw [hfit]; simp), Int.toNat_natCast] at hap
      simp [w1, w2]
      refine h6 _ _ _ ?_
      clear h6 K6
      refine ab_seq_k fun K8 h8 => ?_
      refine ab_seq_k fun K9 h9 => ?_
      simp [w1, w2, take_bookC]
      refine callK_of (hS t (by omega) _) ?_
      simp [w1, w2]
      refine h9 _ _ _ ?_
      clear h9 K9
      by_cases hz : sumF F t N = 0
      · rw [if_neg (by simp [hz])] at hap
        refine ab_cond_of rfl (fun h => by simp [hz] at h) (fun _ => ?_)
        simp
        refine h8 _ _ _ ?_
        have q1 := hpr (W - 1) (by omega) hall
        have q2 := hpr t htW hz
        have q3 := hpr (W - 1 - t) (by omega) (hrest t htW hz)
        have b1 := hpb (W - 1) (by omega)
        have b2 := hpb t htW
        have b3 := hpb (W - 1 - t) (by omega)
        have w1' : (((W : Int) - 1).toNat) = W - 1 := by omega
        have w3' : (((W : Int) - 1 - t).toNat) = W - 1 - t := by omega
        obtain ⟨q1l, q1'⟩ := List.getElem?_eq_some_iff.1 q1
        obtain ⟨q2l, q2'⟩ := List.getElem?_eq_some_iff.1 q2
        obtain ⟨q3l, q3'⟩ := List.getElem?_eq_some_iff.1 q3
        have htL : t < L.length := by omega
        generalize prP F N (W - 1) = x1 at *
        generalize prP F N t = x2 at *
        generalize prP F N (W - 1 - t) = x3 at *
        refine ab_seq_k fun K12 h12 => ?_
        simp [take_bookC]
        refine callK_of (hM _) ?_
        simp [take_bookC]
        refine h12 _ _ _ ?_
        clear h12 K12
        refine ab_seq_k fun K13 h13 => ?_
        simp [abDs_consU, drU, recheck_cons, recheck_nil, rcK, IS.dst, take_bookC]
        refine callK_of (hA _) ?_
        simp [abDs_consU, drU, recheck_cons, recheck_nil, rcK, IS.dst, take_bookC, w1', q1, q1', htL, q2, q2', wrap64 (x := x1 - x2) (by omega) (by omega)]
        refine ⟨by omega, by omega, ?_⟩
        refine callK_of (hA _) ?_
        simp [abDs_consU, drU, recheck_cons, recheck_nil, rcK, IS.dst, wrap64 (x := (W : Int) - 1 - t) (by omega) (by omega), w3', q3, q3', wrap64 (x := x1 - x2 - x3) (by omega) (by omega)]
        refine ⟨by omega, by omega, ?_⟩
        refine h13 _ _ _ ?_
        simp
        exact fin_of 1 (by rw [hap]; simp [rs38, pairV])
      · rw [if_pos hz] at hap
        refine ab_cond_of rfl (fun _ => ?_) (fun h => by simp [hz] at h)
        refine ab_seq_k fun K10 h10 => ?_
        simp
        refine h10 _ _ _ ?_
        clear h10 K10
        simp
        exact fin_of 1 (by rw [hap]; simp [rs38, pairV])
  by_cases c1 : s < 1
  · simp [c1]
    exact hK _ _ rfl rfl rfl (by rw [fit_not]; simp [c1])
  · simp [c1, take_bookC]
    refine callK_of (hA _) ?_
    simp [c1]
    exact hK _ _ rfl rfl rfl (by rw [fit_not]; simp [c1])
end Go.Ab
