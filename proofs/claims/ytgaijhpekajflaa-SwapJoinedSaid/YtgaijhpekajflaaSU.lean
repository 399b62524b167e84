/- Which sets are groups: both. -/
import Derived.Test.YtgaijhpekajflaaST
set_option linter.unusedVariables false
set_option linter.unusedSimpArgs false
set_option maxHeartbeats 4000000
set_option maxRecDepth 100000
namespace Go.Ab
open Go Go.Proofs

/-- How many sets a mill is in. -/
def cntB (m : Nat) (G : List Nat) : Nat := G.countP fun g => g.testBit m
theorem cntB_snoc {m : Nat} {G : List Nat} {g : Nat} : cntB m (G ++ [g]) = cntB m G + (if g.testBit m then 1 else 0) := by
  unfold cntB
  rw [List.countP_append, List.countP_singleton]
theorem cntB_take {m i : Nat} {G : List Nat} {g : Nat} (h : G[i]? = some g) : cntB m (G.take (i + 1)) = cntB m (G.take i) + (if g.testBit m then 1 else 0) := by
  rw [List.take_add_one, h]
  exact cntB_snoc
theorem cntB_mono {m i : Nat} {G : List Nat} : cntB m (G.take i) ≤ cntB m G := by
  unfold cntB
  exact (List.take_sublist i G).countP_le
def OneEach (N : Nat) (G : List Nat) : Prop := ∀ m, m < N → cntB m G = 1
noncomputable def oneB (N : Nat) (G : List Nat) : Bool := @decide (OneEach N G) (Classical.propDecidable _)
theorem oneB_iff {N G} : oneB N G = true ↔ OneEach N G := by unfold oneB; exact @decide_eq_true_iff _ (Classical.propDecidable _)
def nats (P : List Int) : List Nat := P.map Int.toNat
theorem nats_get {P : List Int} {i : Nat} {x : Int} (h : P[i]? = some x) : (nats P)[i]? = some x.toNat := by simp [nats, h]
@[simp] theorem nats_len {P : List Int} : (nats P).length = P.length := by simp [nats]
noncomputable def chkG (n : Int) (D : List Db) (P : List Int) : Int × Int :=
  if checkBook n D ≠ 0 then (0, checkBook n D) else if n < P.length then (0, 6) else if (P.any fun x => !fit 1 ((2 ^ n.toNat : Nat) - 1) x) = true then (0, 3)
  else if oneB n.toNat (nats P) = false then (0, 16) else if (P.any fun x => !decide (sumF (balF D) x.toNat n.toNat = 0)) = true then (0, 14) else (P.length, 0)

section
variable {N W : Nat} {D : List Db} {f : Bool}
theorem range67 {x : Int} (hN : N ≤ 10) (hW : 2 ^ N = W) : FSpec Try.prog 67 [.i .i64 x, .sp [ledT N D f] 0] [] (.b (!fit 1 ((W : Int) - 1) x)) [] := by
  refine fn67.spec0 mixed noIt_ok ?_
  rw [ic67]
  have hA : ∀ σ, FSpec Try.prog 63 [ledT N D f] σ (.i .i64 ((W : Int) - 1)) σ := fun σ => all63 hN hW
  have hpt : (ledT N D f).pure = true := pure_ledT
  generalize ledT N D f = lt at *
  refine ab_seq_k fun K1 h1 => ?_
  simp
  refine h1 _ _ _ ?_
  clear h1 K1
  refine ab_seq_k fun K2 h2 => ?_
  by_cases c1 : x < 1
  · simp [c1]
    refine h2 _ _ _ ?_
    simp
    exact fin_of 1 (by rw [fit_not]; simp [rs67, c1])
  · simp [c1]
    refine callK_of (hA _) ?_
    simp [c1]
    refine h2 _ _ _ ?_
    simp
    exact fin_of 1 (by rw [fit_not]; simp [rs67, c1])
theorem even68 {s : Nat} (hs : s < 2 ^ N) : FSpec Try.prog 68 [.i .i64 s, .sp [ledT N D f] 0] [] (.b (!evF (balF D) N s)) [] := by
  refine fn68.spec0 mixed noIt_ok ?_
  rw [ic68]
  have hev : ∀ σ, FSpec Try.prog 69 [ledT N D f, .i .i64 s] σ (.b (evF (balF D) N s)) σ := fun σ => by
    have := even69 (n := N) (D := D) (f := f) (F := balF D) (prs := sl (prL (evF (balF D) N) N (2 ^ N)) false) (E := evens (balF D) N) (s := s) (σ := σ) evens_len (by simp)
    rw [evB_is hs] at this
    exact this
  have hpt : (ledT N D f).pure = true := pure_ledT
  generalize ledT N D f = lt at *
  refine ab_seq_k fun K1 h1 => ?_
  simp
  refine h1 _ _ _ ?_
  clear h1 K1
  refine ab_seq_k fun K2 h2 => ?_
  simp
  refine callK_of (hev _) ?_
  simp
  refine h2 _ _ _ ?_
  clear h2 K2
  simp
  exact fin_of 1 (by simp [rs68])
end
theorem cnt_step {x y : Bool} {n : Nat} (a : ¬ (x = true ∧ y = true)) (b : x = true ↔ n = 1) (c : n ≤ 1) : ((x || y) = true ↔ n + (if y = true then 1 else 0) = 1) ∧ n + (if y = true then 1 else 0) ≤ 1 := by
  cases y with
  | false => simpa using ⟨b, c⟩
  | true =>
    have hx : x = false := by
      cases x with
      | false => rfl
      | true => exact absurd ⟨rfl, rfl⟩ a
    have hn : n ≠ 1 := fun h => by have := b.2 h; rw [hx] at this; cases this
    simp
    omega
theorem any_congr {α : Type} {l : List α} {p q : α → Bool} (h : ∀ x ∈ l, p x = q x) : l.any p = l.any q := by
  induction l with
  | nil => rfl
  | cons a l ih => rw [List.any_cons, List.any_cons, h a (by simp), ih fun x hx => h x (by simp [hx])]
theorem checkG29 {n : Int} {D : List Db} {P : List Int} {f fp : Bool} (hl : (D.length : Int) < 9223372036854775808) (hP : (P.length : Int) < 9223372036854775808) : FSpec Try.prog 29 [bookV n D f, sl P fp] [] (pairV (chkG n D P)) [] := by
  refine fn29.spec0 mixed noIt_ok ?_
  rw [ic29]
  have hO := fun σ => FSpec.frame (σ := σ) (open61 (n := n) (D := D) (f := f) hl) (by simp) openV_pure
  refine ab_seq_k fun K1 h1 => ?_
  simp
  refine h1 _ _ _ ?_
  clear h1 K1
  by_cases hc : checkBook n D = 0
  case neg =>
    have e : openV n D f = .tup [.np, .i .i64 (checkBook n D)] := by simp [openV, hc]
    rw [e] at hO
    refine ab_seq_k fun K2 h2 => ?_
    simp [take_bookC]
    refine callK_of (hO _) ?_
    simp [take_bookC]
    refine h2 _ _ _ ?_
    clear h2 K2
    refine ab_seq_k fun K3 h3 => ?_
    refine ab_block_k fun K4 h4 => ?_
    refine ab_seq_k fun K5 h5 => ?_
    simp
    refine h5 _ _ _ ?_
    clear h5 K5
    refine ab_cond_of rfl (fun _ => ?_) (fun h => by simp [hc] at h)
    refine ab_seq_k fun K6 h6 => ?_
    simp
    refine h6 _ _ _ ?_
    clear h6 K6
    simp
    exact fin_of 1 (by simp [rs29, pairV, chkG, hc])
  obtain ⟨N, rfl, hN1, hN, hlen, hD⟩ := book_nat hc
  have e : openV N D f = .tup [ledT N D f, .i .i64 0] := by simp [openV, hc]
  rw [e] at hO
  have hp := pow_small hN
  have hA : ∀ σ, FSpec Try.prog 63 [ledT N D f] σ (.i .i64 (((2 ^ N : Nat) : Int) - 1)) σ := fun σ => all63 hN rfl
  have hR : ∀ x : Int, FSpec Try.prog 67 [.i .i64 x, .sp [ledT N D f] 0] [] (.b (!fit 1 (((2 ^ N : Nat) : Int) - 1) x)) [] := fun x => range67 hN rfl
  have hE : ∀ s : Nat, s < 2 ^ N → FSpec Try.prog 68 [.i .i64 s, .sp [ledT N D f] 0] [] (.b (!evF (balF D) N s)) [] := fun s hs => even68 hs
  have hbits : ∀ m, (2 ^ N - 1).testBit m = decide (m < N) := fun m => Nat.testBit_two_pow_sub_one _ _
  have hout : ∀ g, g < 2 ^ N → ∀ m, g.testBit m = true → m < N := fun g hg m hm => bit_lt hg hm
  have hchk : chkG N D P = if (N : Int) < P.length then (0, 6) else if (P.any fun x => !fit 1 (((2 ^ N : Nat) : Int) - 1) x) = true then (0, 3)
      else if oneB N (nats P) = false then (0, 16) else if (P.any fun x => !decide (sumF (balF D) x.toNat N = 0)) = true then (0, 14) else ((P.length : Int), 0) := by
    unfold chkG
    rw [if_neg (by simp [hc])]
    rfl
  generalize hF : balF D = F at *
  generalize hW : 2 ^ N = W at *
  clear hF e
  have hpt : (ledT N D f).pure = true := pure_ledT
  have hcl : cellsOf (ledT N D f) = some [ledT N D f] := rfl
  generalize ledT N D f = lt at *
  refine ab_seq_k fun K2 h2 => ?_
  simp [take_bookC]
  refine callK_of (hO _) ?_
  simp [take_bookC]
  refine ⟨hcl, ?_⟩
  refine h2 _ _ _ ?_
  clear h2 K2
  refine ab_seq_k fun K3 h3 => ?_
  refine ab_block_k fun K4 h4 => ?_
  refine ab_seq_k fun K5 h5 => ?_
  simp
  refine h5 _ _ _ ?_
  clear h5 K5
  refine ab_cond_of rfl (fun h => by cases h) (fun _ => ?_)
  refine ab_seq_k fun K6 h6 => ?_
  simp [get0_bookC]
  refine h6 _ _ _ ?_
  clear h6 K6
  by_cases hlN : (N : Int) < P.length
  · refine ab_cond_of rfl (fun _ => ?_) (fun h => by simp at h; omega)
    refine ab_seq_k fun K7 h7 => ?_
    simp
    refine h7 _ _ _ ?_
    clear h7 K7
    simp
    exact fin_of 1 (by simp only [hchk]; simp [rs29, pairV, hlN])
  refine ab_cond_of rfl (fun h => by simp at h; omega) (fun _ => ?_)
  refine ab_seq_k fun K7 h7 => ?_
  simp
  refine callK_of (σ' := [O.row 0 (bookC N D f), O.row 0 [lt]]) (FSpec.frozen 3 (v := .b (P.any fun x => !fit 1 ((W : Int) - 1) x)) ?_ rfl) ?_
  · simp [hpt]
    exact containsFuncI (g := 67) (first := []) (cap := [.sp [lt] 0]) (fun x _ => by simpa using hR x) (by omega)
  simp
  refine h7 _ _ _ ?_
  clear h7 K7
  by_cases hfit : (P.any fun x => !fit 1 ((W : Int) - 1) x) = true
  · refine ab_cond_of rfl (fun _ => ?_) (fun h => by rw [hfit] at h; cases h)
    refine ab_seq_k fun K8 h8 => ?_
    simp
    refine h8 _ _ _ ?_
    clear h8 K8
    simp
    exact fin_of 1 (by simp only [hchk]; simp [rs29, pairV, hlN, hfit])
  refine ab_cond_of rfl (fun h => absurd h hfit) (fun _ => ?_)
  simp
  refine h4 _ _ _ ?_
  refine h3 _ _ _ ?_
  clear h3 h4 K3 K4
  have hPg : ∀ i x, P[i]? = some x → (nats P)[i]? = some x.toNat ∧ x = (x.toNat : Int) ∧ 1 ≤ x.toNat ∧ x.toNat < W := fun i x hx => by
    have hm := List.mem_of_getElem? hx
    have hf : fit 1 ((W : Int) - 1) x = true := by
      cases hq : fit 1 ((W : Int) - 1) x with
      | true => rfl
      | false => exact absurd (List.any_eq_true.2 ⟨_, hm, by rw [hq]; rfl⟩) hfit
    unfold fit at hf
    simp only [Bool.and_eq_true, decide_eq_true_eq] at hf
    exact ⟨nats_get hx, by omega, by omega, by omega⟩
  have hbad : ∀ m i, cntB m ((nats P).take i) ≠ 0 → cntB m ((nats P).take i) ≠ 1 → m < N → chkG N D P = (0, 16) := fun m i h0 h1 hm => by
    have : oneB N (nats P) = false := by
      cases hq : oneB N (nats P) with
      | false => rfl
      | true =>
        have := oneB_iff.1 hq m hm
        have := cntB_mono (m := m) (i := i) (G := nats P)
        omega
    rw [hchk]; simp only [hlN, hfit, this]; simp
  refine ab_seq_k fun K9 h9 => ?_
  simp
  refine h9 _ _ _ ?_
  clear h9 K9
  refine ab_seq_k fun K10 h10 => ?_
  refine ab_seq_k fun K11 h11 => ?_
  simp
  refine h11 _ _ _ ?_
  clear h11 K11
  refine ab_block_k fun K12 h12 => ?_
  refine ab_loop_k (fun m env σ => ∃ (i t : Nat), i + m = P.length ∧ env = [(1, sl P fp), (6, .p 1 0 0), (8, .i .i64 t), (30, sl P fp), (31, .i .i64 P.length), (32, .i .i64 i)] ∧ t < W ∧ (∀ m, t.testBit m = true ↔ cntB m ((nats P).take i) = 1) ∧ (∀ m, cntB m ((nats P).take i) ≤ 1) ∧ σ = [O.row 0 (bookC N D f), O.row 0 [lt]]) P.length
    ⟨0, 0, by omega, by simp, by omega, by simp [cntB], by simp [cntB], rfl⟩ ?_
  rintro m env σ ⟨i, t, hi, rfl, htW, hb1, hb2, rfl⟩ K13 h13
  rw [ic29_0]
  refine ab_seq_k fun K14 h14 => ?_
  simp
  refine h14 _ _ _ ?_
  clear h14 K14
  refine ab_seq_k fun K15 h15 => ?_
  refine ab_cond_of rfl (fun hc2 => ?_) (fun hc2 => ?_)
  · have hil : i < P.length := by simpa using hc2
    obtain ⟨x, hx⟩ : ∃ x, P[i]? = some x := ⟨_, List.getElem?_eq_getElem hil⟩
    obtain ⟨q1, q2, q3, q4⟩ := hPg i x hx
    obtain ⟨hxl, hx'⟩ := List.getElem?_eq_some_iff.1 hx
    generalize x.toNat = g at *
    subst q2
    have ea := and_nat (a := t) (b := g) (by omega) (by omega)
    have eo := or_nat (a := t) (b := g) (by omega) (by omega)
    have hst := fun m => cntB_take (m := m) q1
    simp
    refine h15 _ _ _ ?_
    clear h15 K15
    refine ab_seq_k fun K16 h16 => ?_
    refine ab_block_k fun K17 h17 => ?_
    refine ab_seq_k fun K18 h18 => ?_
    simp [hxl, hx, hx']
    refine h18 _ _ _ ?_
    clear h18 K18
    refine ab_seq_k fun K19 h19 => ?_
    refine ab_seq_k fun K20 h20 => ?_
    simp [ea]
    refine h20 _ _ _ ?_
    clear h20 K20
    by_cases hd : t &&& g = 0
    · refine ab_cond_of rfl (fun h => by simp [hd] at h) (fun _ => ?_)
      simp
      refine h19 _ _ _ ?_
      simp [eo]
      refine h17 _ _ _ ?_
      refine h16 _ _ _ ?_
      simp [wrap64 (x := (i : Int) + 1) (by omega) (by omega)]
      have hdb := dis_bit.1 hd
      have hor : t ||| g < W := by rw [← hW] at *; exact lt_or htW q4
      refine h13 _ _ _ (again (m - 1) (by omega) ⟨i + 1, t ||| g, by omega, by simp, hor, fun k => ?_, fun k => ?_, rfl⟩)
      · have a := hdb k
        have b := hb1 k
        have c := hb2 k
        rw [hst k, Nat.testBit_or]
        exact (cnt_step a b c).1
      · have a := hdb k
        have b := hb1 k
        have c := hb2 k
        rw [hst k]
        exact (cnt_step a b c).2
    · refine ab_cond_of rfl (fun _ => ?_) (fun h => by simp at h; omega)
      have : ∃ k, t.testBit k = true ∧ g.testBit k = true := by
        false_or_by_contra
        rename_i hn
        exact hd (dis_bit.2 fun k hk => hn ⟨k, hk⟩)
      obtain ⟨k, hk1, hk2⟩ := this
      have hkN := hout g q4 k hk2
      have e1 := hst k
      rw [hk2, if_pos rfl, (hb1 k).1 hk1] at e1
      have hres := hbad k (i + 1) (by omega) (by omega) hkN
      refine ab_seq_k fun K21 h21 => ?_
      simp
      refine h21 _ _ _ ?_
      clear h21 K21
      simp
      exact fin_of 1 (by rw [hres]; simp [rs29, pairV])
  · have hil : i = P.length := by simp at hc2; omega
    subst hil
    have htl : (nats P).take P.length = nats P := by
      rw [← nats_len (P := P), List.take_length]
    rw [htl] at hb1 hb2
    simp
    refine h12 _ _ _ ?_
    refine h10 _ _ _ ?_
    clear h10 h12 h13 h15
    refine ab_seq_k fun K22 h22 => ?_
    refine ab_block_k fun K23 h23 => ?_
    refine ab_seq_k fun K24 h24 => ?_
    simp
    refine callK_of (hA _) ?_
    simp
    refine h24 _ _ _ ?_
    clear h24 K24
    by_cases hall : t = W - 1
    case neg =>
      refine ab_cond_of rfl (fun _ => ?_) (fun h => by simp at h; omega)
      have hone : oneB N (nats P) = false := by
        cases hq : oneB N (nats P) with
        | false => rfl
        | true =>
          refine absurd ?_ hall
          apply Nat.eq_of_testBit_eq
          intro k
          rw [hbits k]
          by_cases hk : k < N
          · rw [(hb1 k).2 (oneB_iff.1 hq k hk)]; simp [hk]
          · cases ht : t.testBit k with
            | false => simp [hk]
            | true => exact absurd (hout t htW k ht) hk
      refine ab_seq_k fun K25 h25 => ?_
      simp
      refine h25 _ _ _ ?_
      clear h25 K25
      simp
      exact fin_of 1 (by simp only [hchk]; simp [rs29, pairV, hlN, hfit, hone])
    refine ab_cond_of rfl (fun h => by simp at h; omega) (fun _ => ?_)
    have hone : oneB N (nats P) = true := oneB_iff.2 fun k hk => (hb1 k).1 (by rw [hall, hbits k]; simp [hk])
    have hsum : (P.any fun x => !evF F N x.toNat) = P.any fun x => !decide (sumF F x.toNat N = 0) := any_congr fun x hx => by
      obtain ⟨j, hj⟩ := List.mem_iff_getElem?.1 hx
      obtain ⟨-, -, q, -⟩ := hPg j x hj
      have : x.toNat ≠ 0 := by omega
      simp [evF, this]
    refine ab_seq_k fun K26 h26 => ?_
    simp
    refine callK_of (σ' := [O.row 0 (bookC N D f), O.row 0 [lt]]) (FSpec.frozen 3 (v := .b (P.any fun x => !evF F N x.toNat)) ?_ rfl) ?_
    · simp [hpt]
      exact containsFuncI (g := 68) (first := []) (cap := [.sp [lt] 0]) (fun x hx => by
        obtain ⟨j, hj⟩ := List.mem_iff_getElem?.1 hx
        obtain ⟨-, e, -, q⟩ := hPg j x hj
        have := hE x.toNat q
        rw [← e] at this
        simpa using this) (by omega)
    rw [hsum]
    simp
    refine h26 _ _ _ ?_
    clear h26 K26
    by_cases hbs : (P.any fun x => !decide (sumF F x.toNat N = 0)) = true
    · refine ab_cond_of rfl (fun _ => ?_) (fun h => by simp_all)
      refine ab_seq_k fun K27 h27 => ?_
      simp
      refine h27 _ _ _ ?_
      clear h27 K27
      simp
      exact fin_of 1 (by simp only [hchk]; simp only [hlN, hfit, hone, hbs]; simp [rs29, pairV])
    · refine ab_cond_of rfl (fun h => by simp_all) (fun _ => ?_)
      simp
      refine h23 _ _ _ ?_
      refine h22 _ _ _ ?_
      refine ab_seq_k fun K28 h28 => ?_
      simp
      refine h28 _ _ _ ?_
      clear h28 K28
      simp
      exact fin_of 1 (by simp only [hchk]; simp only [hlN, hfit, hone, hbs]; simp [rs29, pairV])
end Go.Ab
