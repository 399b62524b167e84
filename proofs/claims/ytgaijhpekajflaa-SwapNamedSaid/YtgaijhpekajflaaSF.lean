/- Balances, drafts that are checked: of the program and of the definition. -/
import Derived.Test.YtgaijhpekajflaaSE
set_option linter.unusedVariables false
set_option linter.unusedSimpArgs false
set_option maxHeartbeats 4000000
set_option maxRecDepth 100000
namespace Go.Ab
open Go Go.Proofs

theorem longs23 {a b : List Int} {fa fb : Bool} (ha : (a.length : Int) < 1000000000) : FSpec Try.prog 23 [sl a fa, sl b fb] [] (.b (decide (a = b))) [] := by
  refine fn23.spec0 mixed noIt_ok ?_
  rw [ic23]
  refine ab_seq_k fun K1 h1 => ?_
  simp
  refine h1 _ _ _ ?_
  clear h1 K1
  refine ab_seq_k fun K2 h2 => ?_
  refine ab_seq_k fun K3 h3 => ?_
  simp
  refine h3 _ _ _ ?_
  clear h3 K3
  refine ab_cond_of rfl (fun hc => ?_) (fun hc => ?_)
  · have hne : a ≠ b := by rintro rfl; simp at hc
    refine ab_seq_k fun K4 h4 => ?_
    simp
    refine h4 _ _ _ ?_
    clear h4 K4
    simp
    exact fin_of 1 (by simp [rs23, hne])
  have hlen : a.length = b.length := by simp at hc; omega
  simp
  refine h2 _ _ _ ?_
  clear h2 K2
  refine ab_seq_k fun K5 h5 => ?_
  refine ab_seq_k fun K6 h6 => ?_
  simp
  refine h6 _ _ _ ?_
  clear h6 K6
  refine ab_block_k fun K7 h7 => ?_
  refine ab_loop_k (fun m env σ => ∃ i : Nat, i + m = a.length ∧ a.take i = b.take i ∧ env = [(0, sl a fa), (1, sl b fb), (5, .i .i64 i)]) a.length ⟨0, by omega, by simp, by simp⟩ ?_
  rintro m env σ ⟨i, hi, hpre, rfl⟩ K8 h8
  rw [ic23_0]
  refine ab_seq_k fun K9 h9 => ?_
  refine ab_seq_k fun K10 h10 => ?_
  simp
  refine h10 _ _ _ ?_
  clear h10 K10
  refine ab_cond_of rfl (fun hc2 => ?_) (fun hc2 => ?_)
  · have hil : i < a.length := by simpa using hc2
    have hilb : i < b.length := by omega
    have hx : a[i]? = some a[i] := List.getElem?_eq_getElem hil
    have hy : b[i]? = some b[i] := List.getElem?_eq_getElem hilb
    have hta : a.take (i + 1) = a.take i ++ [a[i]] := by rw [List.take_add_one, hx]; rfl
    have htb : b.take (i + 1) = b.take i ++ [b[i]] := by rw [List.take_add_one, hy]; rfl
    simp
    refine h9 _ _ _ ?_
    clear h9 K9
    refine ab_seq_k fun K11 h11 => ?_
    refine ab_block_k fun K12 h12 => ?_
    refine ab_seq_k fun K13 h13 => ?_
    simp [hil, hilb]
    refine h13 _ _ _ ?_
    clear h13 K13
    refine ab_cond_of rfl (fun hc3 => ?_) (fun hc3 => ?_)
    · have hne : a ≠ b := by rintro rfl; simp at hc3
      refine ab_seq_k fun K14 h14 => ?_
      simp
      refine h14 _ _ _ ?_
      clear h14 K14
      simp
      exact fin_of 1 (by simp [rs23, hne])
    · have he : a[i] = b[i] := by simpa using hc3
      simp
      refine h12 _ _ _ ?_
      refine h11 _ _ _ ?_
      simp [wrap64 (x := (i : Int) + 1) (by omega) (by omega)]
      exact h8 _ _ _ (again (m - 1) (by omega) ⟨i + 1, by omega, by rw [hta, htb, hpre, he], by simp⟩)
  · have hil : i = a.length := by simp at hc2; omega
    subst hil
    have he : a = b := by
      rw [List.take_length] at hpre
      rw [hpre, List.take_of_length_le (by omega)]
    simp
    refine h7 _ _ _ ?_
    refine h5 _ _ _ ?_
    refine ab_seq_k fun K15 h15 => ?_
    simp
    refine h15 _ _ _ ?_
    clear h15 K15
    simp
    exact fin_of 1 (by simp [rs23, he])

theorem ints56 {a b : List Int} {fa fb : Bool} (ha : (a.length : Int) < 1000000000) : FSpec Try.prog 56 [sl a fa, sl b fb] [] (.b (decide (a = b))) [] := by
  refine fn56.spec0 mixed noIt_ok ?_
  rw [ic56]
  refine ab_seq_k fun K1 h1 => ?_
  simp
  refine h1 _ _ _ ?_
  clear h1 K1
  refine ab_seq_k fun K2 h2 => ?_
  refine ab_seq_k fun K3 h3 => ?_
  simp
  refine h3 _ _ _ ?_
  clear h3 K3
  refine ab_cond_of rfl (fun hc => ?_) (fun hc => ?_)
  · have hne : a ≠ b := by rintro rfl; simp at hc
    refine ab_seq_k fun K4 h4 => ?_
    simp
    refine h4 _ _ _ ?_
    clear h4 K4
    simp
    exact fin_of 1 (by simp [rs56, hne])
  have hlen : a.length = b.length := by simp at hc; omega
  simp
  refine h2 _ _ _ ?_
  clear h2 K2
  refine ab_seq_k fun K5 h5 => ?_
  refine ab_seq_k fun K6 h6 => ?_
  simp
  refine h6 _ _ _ ?_
  clear h6 K6
  refine ab_block_k fun K7 h7 => ?_
  refine ab_loop_k (fun m env σ => ∃ i : Nat, i + m = a.length ∧ a.take i = b.take i ∧ env = [(0, sl a fa), (1, sl b fb), (5, .i .i64 i)]) a.length ⟨0, by omega, by simp, by simp⟩ ?_
  rintro m env σ ⟨i, hi, hpre, rfl⟩ K8 h8
  rw [ic56_0]
  refine ab_seq_k fun K9 h9 => ?_
  refine ab_seq_k fun K10 h10 => ?_
  simp
  refine h10 _ _ _ ?_
  clear h10 K10
  refine ab_cond_of rfl (fun hc2 => ?_) (fun hc2 => ?_)
  · have hil : i < a.length := by simpa using hc2
    have hilb : i < b.length := by omega
    have hx : a[i]? = some a[i] := List.getElem?_eq_getElem hil
    have hy : b[i]? = some b[i] := List.getElem?_eq_getElem hilb
    have hta : a.take (i + 1) = a.take i ++ [a[i]] := by rw [List.take_add_one, hx]; rfl
    have htb : b.take (i + 1) = b.take i ++ [b[i]] := by rw [List.take_add_one, hy]; rfl
    simp
    refine h9 _ _ _ ?_
    clear h9 K9
    refine ab_seq_k fun K11 h11 => ?_
    refine ab_block_k fun K12 h12 => ?_
    refine ab_seq_k fun K13 h13 => ?_
    simp [hil, hilb]
    refine h13 _ _ _ ?_
    clear h13 K13
    refine ab_cond_of rfl (fun hc3 => ?_) (fun hc3 => ?_)
    · have hne : a ≠ b := by rintro rfl; simp at hc3
      refine ab_seq_k fun K14 h14 => ?_
      simp
      refine h14 _ _ _ ?_
      clear h14 K14
      simp
      exact fin_of 1 (by simp [rs56, hne])
    · have he : a[i] = b[i] := by simpa using hc3
      simp
      refine h12 _ _ _ ?_
      refine h11 _ _ _ ?_
      simp [wrap64 (x := (i : Int) + 1) (by omega) (by omega)]
      exact h8 _ _ _ (again (m - 1) (by omega) ⟨i + 1, by omega, by rw [hta, htb, hpre, he], by simp⟩)
  · have hil : i = a.length := by simp at hc2; omega
    subst hil
    have he : a = b := by
      rw [List.take_length] at hpre
      rw [hpre, List.take_of_length_le (by omega)]
    simp
    refine h7 _ _ _ ?_
    refine h5 _ _ _ ?_
    refine ab_seq_k fun K15 h15 => ?_
    simp
    refine h15 _ _ _ ?_
    clear h15 K15
    simp
    exact fin_of 1 (by simp [rs56, he])

def pairV (p : Int × Int) : V := .tup [.i .i64 p.1, .i .i64 p.2]
def balP (n : Int) (D : List Db) : V := if checkBook n D = 0 then .tup [sl (rowF n.toNat (balF D)) false, .i .i64 0] else .tup [.ss [] 0 true, .i .i64 (checkBook n D)]
theorem DbOK.ten {n M : Int} {D : List Db} (h : DbOK n M D) (hn : n ≤ 10) : DbOK 10 M D := fun d hd => by
  obtain ⟨⟨a, b⟩, ⟨c, e⟩, f, g⟩ := h d hd
  exact ⟨⟨a, by omega⟩, ⟨c, by omega⟩, f, g⟩
theorem refBal {n : Int} {D : List Db} {f : Bool} (hl : (D.length : Int) < 9223372036854775808) : FSpec Try.prog 20 [bookV n D f] [] (balP n D) [] := by
  refine fn20.spec0 mixed noIt_ok ?_
  rw [ic20]
  have hb := fun σ => FSpec.frame (σ := σ) (refBook (n := n) (D := D) (f := f) hl) (by simp) rfl
  refine ab_seq_k fun K1 h1 => ?_
  simp
  refine h1 _ _ _ ?_
  clear h1 K1
  refine ab_seq_k fun K2 h2 => ?_
  refine ab_seq_k fun K3 h3 => ?_
  simp [take_bookC]
  refine callK_of (hb _) ?_
  simp [take_bookC]
  refine h3 _ _ _ ?_
  clear h3 K3
  by_cases hc : checkBook n D = 0
  · refine ab_cond_of rfl (fun h => by simp [hc] at h) (fun _ => ?_)
    obtain ⟨⟨n1, n2⟩, hlen, hD, -⟩ := book_ok hc
    obtain ⟨N, hN⟩ : ∃ N : Nat, n = (N : Int) := ⟨n.toNat, by omega⟩
    simp
    refine h2 _ _ _ ?_
    clear h2 K2
    refine ab_seq_k fun K4 h4 => ?_
    simp [take_bookC]
    refine callK_of (FSpec.frame (bal47 (M := 1000000) (by omega) (by omega) hD (by omega) hN (by omega)) (by simp) (by simp)) ?_
    simp [take_bookC]
    refine h4 _ _ _ ?_
    clear h4 K4
    simp
    exact fin_of 1 (by subst hN; simp [rs20, balP, hc])
  · refine ab_cond_of rfl (fun _ => ?_) (fun h => by simp [hc] at h)
    refine ab_seq_k fun K4 h4 => ?_
    simp [take_bookC]
    refine callK_of (hb _) ?_
    simp [take_bookC]
    refine h4 _ _ _ ?_
    clear h4 K4
    simp
    exact fin_of 1 (by simp [rs20, balP, hc])
theorem prgBal {n : Int} {D : List Db} {f : Bool} (hl : (D.length : Int) < 9223372036854775808) : FSpec Try.prog 19 [bookV n D f] [] (balP n D) [] := by
  refine fn19.spec0 mixed noIt_ok ?_
  rw [ic19]
  have hb := fun σ => FSpec.frame (σ := σ) (checkBook_ok (n := n) (D := D) (f := f) hl) (by simp) rfl
  refine ab_seq_k fun K1 h1 => ?_
  simp
  refine h1 _ _ _ ?_
  clear h1 K1
  refine ab_seq_k fun K2 h2 => ?_
  refine ab_seq_k fun K3 h3 => ?_
  simp [take_bookC]
  refine callK_of (hb _) ?_
  simp [take_bookC]
  refine h3 _ _ _ ?_
  clear h3 K3
  refine ab_seq_k fun K5 h5 => ?_
  simp
  refine h5 _ _ _ ?_
  clear h5 K5
  by_cases hc : checkBook n D = 0
  · refine ab_cond_of rfl (fun h => by simp [hc] at h) (fun _ => ?_)
    obtain ⟨⟨n1, n2⟩, hlen, hD, -⟩ := book_ok hc
    obtain ⟨N, hN⟩ : ∃ N : Nat, n = (N : Int) := ⟨n.toNat, by omega⟩
    subst hN
    simp
    refine h2 _ _ _ ?_
    clear h2 K2
    refine ab_seq_k fun K6 h6 => ?_
    simp [-List.reduceReplicate, get1_bookC]
    refine callK_of (FSpec.frame (balances57 (M := 1000000) (by omega) (by omega) (hD.ten n2) (by omega)) (by simp) (by simp)) ?_
    simp [-List.reduceReplicate]
    refine h6 _ _ _ ?_
    clear h6 K6
    have er : rep N [V.i IntKind.i64 0] = ints (rowF N (fun _ => 0)) := by
      rw [rowF_zero]; simp [rep, ints, List.flatten_replicate_singleton]
    refine ab_seq_k fun K7 h7 => ?_
    simp [get0_bookC]
    refine ⟨by omega, by omega, ?_⟩
    rw [er]
    refine h7 _ _ _ ?_
    clear h7 K7
    refine ab_seq_k fun K8 h8 => ?_
    have hmin : min 10 N = N := by omega
    have htk : List.take N (ints (rowF 10 (balF D))) = ints (rowF N (balF D)) := by
      unfold ints rowF
      rw [← List.map_take, ← List.map_take, List.take_range, Nat.min_eq_left (by omega)]
    simp [cpyK, rowOf, splice, hmin, htk, Nat.min_eq_left (show N ≤ 10 by omega)]
    refine h8 _ _ _ ?_
    clear h8 K8
    refine ab_seq_k fun K9 h9 => ?_
    simp
    refine h9 _ _ _ ?_
    clear h9 K9
    simp
    refine fin_of 3 ?_
    have hrow : (List.take N (List.take 10 (ints (rowF 10 (balF D)))) ++ List.drop N (ints (rowF N fun x => 0))) = ints (rowF N (balF D)) := by
      rw [List.take_of_length_le (i := 10) (by simp), htk, List.drop_eq_nil_of_le (by simp), List.append_nil]
    rw [hrow]
    simp [-frz, rs19, balP, hc]
    have h := frz_ints (k := 0) (n := 0) (id := 2) (ver := 0) (σ := [O.row 0 (bookC (N : Int) D f), O.row 0 (ints (rowF 10 (balF D))), O.row 0 (ints (rowF N (balF D)))]) (l := rowF N (balF D)) rfl (Nat.zero_le _)
    rw [rowF_len] at h
    rw [frz_two h]
    simp
  · refine ab_cond_of rfl (fun _ => ?_) (fun h => by simp [hc] at h)
    refine ab_seq_k fun K6 h6 => ?_
    simp
    refine h6 _ _ _ ?_
    clear h6 K6
    simp
    exact fin_of 1 (by simp [rs19, balP, hc])

def draftE (n : Int) (D L : List Db) : Int :=
  if checkBook n D ≠ 0 then checkBook n D else if (10 : Int) < L.length then 6 else if checkD n L 40000000 ≠ 0 then checkD n L 40000000 else if rowF 10 (balF D) = rowF 10 (balF L) then 0 else 14
theorem prgDrafts {n : Int} {D L : List Db} {f fl : Bool} (hl : (D.length : Int) < 9223372036854775808) (hL : (L.length : Int) < 9223372036854775808) : FSpec Try.prog 24 [bookV n D f, slD L fl] [] (.i .i64 (draftE n D L)) [] := by
  refine fn24.spec0 mixed noIt_ok ?_
  rw [ic24]
  have hb := fun σ => FSpec.frame (σ := σ) (checkBook_ok (n := n) (D := D) (f := f) hl) (by simp) rfl
  refine ab_seq_k fun K1 h1 => ?_
  simp
  refine h1 _ _ _ ?_
  clear h1 K1
  refine ab_seq_k fun K2 h2 => ?_
  refine ab_seq_k fun K3 h3 => ?_
  simp [take_bookC]
  refine callK_of (hb _) ?_
  simp [take_bookC]
  refine h3 _ _ _ ?_
  clear h3 K3
  refine ab_seq_k fun K5 h5 => ?_
  simp
  refine h5 _ _ _ ?_
  clear h5 K5
  by_cases hc : checkBook n D = 0
  case neg =>
    refine ab_cond_of rfl (fun _ => ?_) (fun h => by simp [hc] at h)
    refine ab_seq_k fun K6 h6 => ?_
    simp
    refine h6 _ _ _ ?_
    clear h6 K6
    simp
    exact fin_of 1 (by simp [rs24, draftE, hc])
  refine ab_cond_of rfl (fun h => by simp [hc] at h) (fun _ => ?_)
  obtain ⟨⟨n1, n2⟩, hlen, hD, -⟩ := book_ok hc
  simp
  refine h2 _ _ _ ?_
  clear h2 K2
  refine ab_seq_k fun K6 h6 => ?_
  refine ab_seq_k fun K7 h7 => ?_
  simp
  refine h7 _ _ _ ?_
  clear h7 K7
  refine ab_cond_of rfl (fun hc2 => ?_) (fun hc2 => ?_)
  · refine ab_seq_k fun K8 h8 => ?_
    simp
    refine h8 _ _ _ ?_
    clear h8 K8
    simp
    have : (10 : Int) < L.length := of_decide_eq_true hc2
    exact fin_of 1 (by simp [rs24, draftE, hc, this])
  have hlL : ¬ (10 : Int) < L.length := of_decide_eq_false hc2
  simp
  refine h6 _ _ _ ?_
  clear h6 K6
  have hck := fun σ => FSpec.frame (σ := σ) (check59 (n := n) (most := 40000000) (D := L) (f := fl) (by omega) (by omega) (by omega)) (by simp) rfl
  refine ab_seq_k fun K8 h8 => ?_
  refine ab_seq_k fun K9 h9 => ?_
  simp [get0_bookC]
  refine callK_of (hck _) ?_
  simp [get0_bookC]
  refine h9 _ _ _ ?_
  clear h9 K9
  refine ab_seq_k fun K11 h11 => ?_
  simp
  refine h11 _ _ _ ?_
  clear h11 K11
  by_cases hcd : checkD n L 40000000 = 0
  case neg =>
    refine ab_cond_of rfl (fun _ => ?_) (fun h => by simp [hcd] at h)
    refine ab_seq_k fun K12 h12 => ?_
    simp
    refine h12 _ _ _ ?_
    clear h12 K12
    simp
    exact fin_of 1 (by simp [rs24, draftE, hc, hcd, hlL])
  refine ab_cond_of rfl (fun h => by simp [hcd] at h) (fun _ => ?_)
  simp
  refine h8 _ _ _ ?_
  clear h8
  refine ab_seq_k fun K13 h13 => ?_
  refine ab_seq_k fun K14 h14 => ?_
  simp [get1_bookC]
  refine callK_of (FSpec.frame (balances57 (M := 1000000) (by omega) (by omega) (hD.ten n2) (by omega)) (by simp) (by simp)) ?_
  simp
  refine callK_of (FSpec.frame (balances57 (M := 40000000) (by omega) (by omega) ((checkD_ok hcd).ten n2) (by omega)) (by simp) (by simp)) ?_
  have e : ∀ l, intsK .i64 (ints l) = some l := fun l => intsK_all
  simp [e]
  refine h14 _ _ _ ?_
  clear h14 K14
  by_cases hq : rowF 10 (balF D) = rowF 10 (balF L)
  · refine ab_cond_of rfl (fun h => by simp [hq] at h) (fun _ => ?_)
    simp
    refine h13 _ _ _ ?_
    refine ab_seq_k fun K15 h15 => ?_
    simp
    refine h15 _ _ _ ?_
    clear h15 K15
    simp
    exact fin_of 1 (by simp [rs24, draftE, hc, hcd, hlL, hq])
  · refine ab_cond_of rfl (fun _ => ?_) (fun h => by simp [hq] at h)
    refine ab_seq_k fun K15 h15 => ?_
    simp
    refine h15 _ _ _ ?_
    clear h15 K15
    simp
    exact fin_of 1 (by simp [rs24, draftE, hc, hcd, hlL, hq])

theorem refDrafts {n : Int} {D L : List Db} {f fl : Bool} (hl : (D.length : Int) < 9223372036854775808) (hL : (L.length : Int) < 9223372036854775808) : FSpec Try.prog 25 [bookV n D f, slD L fl] [] (.i .i64 (draftE n D L)) [] := by
  refine fn25.spec0 mixed noIt_ok ?_
  rw [ic25]
  have hb := fun σ => FSpec.frame (σ := σ) (refBook (n := n) (D := D) (f := f) hl) (by simp) rfl
  have hdb := fun (d : Db) σ => FSpec.frame (σ := σ) (isDebt60 (n := n) (D := D) (f := f) (d := d)) (by simp) rfl
  refine ab_seq_k fun K1 h1 => ?_
  simp
  refine h1 _ _ _ ?_
  clear h1 K1
  refine ab_seq_k fun K2 h2 => ?_
  refine ab_seq_k fun K3 h3 => ?_
  simp [take_bookC]
  refine callK_of (hb _) ?_
  simp [take_bookC]
  refine h3 _ _ _ ?_
  clear h3 K3
  by_cases hc : checkBook n D = 0
  case neg =>
    refine ab_cond_of rfl (fun _ => ?_) (fun h => by simp [hc] at h)
    refine ab_seq_k fun K6 h6 => ?_
    simp [take_bookC]
    refine callK_of (hb _) ?_
    simp [take_bookC]
    refine h6 _ _ _ ?_
    clear h6 K6
    simp
    exact fin_of 1 (by simp [rs25, draftE, hc])
  refine ab_cond_of rfl (fun h => by simp [hc] at h) (fun _ => ?_)
  obtain ⟨⟨n1, n2⟩, hlen, hD, -⟩ := book_ok hc
  obtain ⟨N, hN⟩ : ∃ N : Nat, n = (N : Int) := ⟨n.toNat, by omega⟩
  simp
  refine h2 _ _ _ ?_
  clear h2 K2
  refine ab_seq_k fun K6 h6 => ?_
  refine ab_seq_k fun K7 h7 => ?_
  simp
  refine h7 _ _ _ ?_
  clear h7 K7
  refine ab_cond_of rfl (fun hc2 => ?_) (fun hc2 => ?_)
  · refine ab_seq_k fun K8 h8 => ?_
    simp
    refine h8 _ _ _ ?_
    clear h8 K8
    simp
    have : (10 : Int) < L.length := of_decide_eq_true hc2
    exact fin_of 1 (by simp [rs25, draftE, hc, this])
  have hlL : ¬ (10 : Int) < L.length := of_decide_eq_false hc2
  have hde : draftE n D L = if checkD n L 40000000 ≠ 0 then checkD n L 40000000 else if rowF 10 (balF D) = rowF 10 (balF L) then 0 else 14 := by
    rw [draftE, if_neg (by simp [hc]), if_neg hlL]
  simp
  refine h6 _ _ _ ?_
  clear h6 K6
  refine ab_seq_k fun K5 h5 => ?_
  refine ab_seq_k fun K6 h6 => ?_
  simp
  refine h6 _ _ _ ?_
  clear h6 K6
  refine ab_block_k fun K7 h7 => ?_
  refine ab_loop_k (fun m env σ => ∃ i : Nat, i + m = L.length ∧ (L.take i).any (strayD n) = false ∧ env = [(1, slD L fl), (2, .p 0 0 0), (5, .i .i64 i)] ∧ σ = [.row 0 (bookC n D f)]) L.length ⟨0, by omega, by simp, by simp, rfl⟩ ?_
  rintro m env σ ⟨i, hi, hpre, rfl, rfl⟩ K8 h8
  rw [ic25_0]
  refine ab_seq_k fun K9 h9 => ?_
  refine ab_seq_k fun K10 h10 => ?_
  simp [get1_bookC]
  refine h10 _ _ _ ?_
  clear h10 K10
  refine ab_cond_of rfl (fun hc => ?_) (fun hc => ?_)
  · have hil : i < L.length := by simpa using hc
    obtain ⟨d, hd⟩ : ∃ d, L[i]? = some d := ⟨_, List.getElem?_eq_getElem hil⟩
    obtain ⟨z1, z2, z3, z4⟩ := lsD_get hd
    have hm3 : min 3 (L.length * 3 - i * 3) = 3 := by omega
    have hle : i * 3 + 3 ≤ L.length * 3 := by omega
    have hstep : (L.take (i + 1)).any (strayD n) = strayD n d := by rw [List.take_add_one, hd]; simp [hpre]
    simp
    refine h9 _ _ _ ?_
    clear h9 K9
    refine ab_seq_k fun K11 h11 => ?_
    refine ab_block_k fun K12 h12 => ?_
    refine ab_seq_k fun K13 h13 => ?_
    simp [abDs_consU, drU, recheck_cons, recheck_nil, rcK, IS.dst, get1_bookC, take_bookC, hil, z1, hm3, hle]
    refine callK_of (hdb d _) ?_
    simp [abDs_consU, drU, recheck_cons, recheck_nil, rcK, IS.dst]
    refine h13 _ _ _ ?_
    clear h13 K13
    refine ab_cond_of rfl (fun hb => ?_) (fun hb => ?_)
    · have hany : L.any (strayD n) = true := List.any_eq_true.2 ⟨d, List.mem_of_getElem? hd, by rw [stray_is]; exact hb⟩
      refine ab_seq_k fun K14 h14 => ?_
      simp
      refine h14 _ _ _ ?_
      clear h14 K14
      simp
      exact fin_of 1 (by simp only [rs25, hde, checkD, hany, if_true]; simp)
    · have hsd : strayD n d = false := by rw [stray_is]; exact hb
      simp
      refine h12 _ _ _ ?_
      refine h11 _ _ _ ?_
      simp [wrap64 (x := (i : Int) + 1) (by omega) (by omega)]
      exact h8 _ _ _ (again (m - 1) (by omega) ⟨i + 1, by omega, by rw [hstep, hsd], by simp, rfl⟩)
  · have hil : i = L.length := by simp at hc; omega
    subst hil
    rw [List.take_length] at hpre
    simp
    refine h7 _ _ _ ?_
    refine h5 _ _ _ ?_
    clear h5 h7 h8 h9
    refine ab_seq_k fun K15 h15 => ?_
    refine ab_seq_k fun K16 h16 => ?_
    simp
    refine h16 _ _ _ ?_
    clear h16 K16
    refine ab_block_k fun K17 h17 => ?_
    refine ab_loop_k (fun m env σ => ∃ i : Nat, i + m = L.length ∧ ((L.take i).any fun d => !fit 1 40000000 d.2.2) = false ∧ env = [(1, slD L fl), (2, .p 0 0 0), (6, .i .i64 i)] ∧ σ = [.row 0 (bookC n D f)]) L.length ⟨0, by omega, by simp, by simp, rfl⟩ ?_
    rintro m env σ ⟨i, hi, hpre2, rfl, rfl⟩ K18 h18
    rw [ic25_1]
    refine ab_seq_k fun K19 h19 => ?_
    refine ab_seq_k fun K20 h20 => ?_
    simp [get1_bookC]
    refine h20 _ _ _ ?_
    clear h20 K20
    refine ab_cond_of rfl (fun hc => ?_) (fun hc => ?_)
    · have hil : i < L.length := by simpa using hc
      obtain ⟨d, hd⟩ : ∃ d, L[i]? = some d := ⟨_, List.getElem?_eq_getElem hil⟩
      obtain ⟨z1, z2, z3, z4⟩ := lsD_get hd
      obtain ⟨hz4, z4'⟩ := List.getElem?_eq_some_iff.1 z4
      have hstep : ((L.take (i + 1)).any fun d => !fit 1 40000000 d.2.2) = !fit 1 40000000 d.2.2 := by rw [List.take_add_one, hd]; simp [hpre2]
      simp
      refine h19 _ _ _ ?_
      clear h19 K19
      refine ab_seq_k fun K21 h21 => ?_
      refine ab_block_k fun K22 h22 => ?_
      refine ab_seq_k fun K23 h23 => ?_
      have hK23 : ∀ env v, get env 1 = slD L fl → get env 2 = .p 0 0 0 → get env 6 = .i .i64 i → get env 50 = .b v → v = (!fit 1 40000000 d.2.2) → K23 (some 0) env [.row 0 (bookC n D f)] := by
        intro env v w1 w2 w4 w hv
        refine h23 _ _ _ ?_
        clear h23 K23
        refine ab_cond_of w (fun hb => ?_) (fun hb => ?_)
        · have hany : (L.any fun d => !fit 1 40000000 d.2.2) = true := List.any_eq_true.2 ⟨d, List.mem_of_getElem? hd, by rw [← hv, hb]⟩
          refine ab_seq_k fun K24 h24 => ?_
          simp
          refine h24 _ _ _ ?_
          clear h24 K24
          simp
          exact fin_of 1 (by simp only [rs25, hde, checkD, hpre, hany]; simp)
        · simp
          refine h22 _ _ _ ?_
          refine h21 _ _ _ ?_
          simp [w1, w2, w4, wrap64 (x := (i : Int) + 1) (by omega) (by omega)]
          exact h18 _ _ _ (again (m - 1) (by omega) ⟨i + 1, by omega, by rw [hstep, ← hv, hb], by simp, rfl⟩)
      clear h23
      by_cases e1 : d.2.2 < 1
      · simp [get1_bookC, hil, z4, z4', e1]
        exact hK23 _ true rfl rfl rfl rfl (by simp [fit_not, e1])
      · simp [get1_bookC, hil, z4, z4', e1]
        exact hK23 _ _ rfl rfl rfl rfl (by simp [fit_not, e1])
    · have hil : i = L.length := by simp at hc; omega
      subst hil
      rw [List.take_length] at hpre2
      have hcd : checkD n L 40000000 = 0 := by simp only [checkD, hpre, hpre2]; rfl
      have hde2 : draftE n D L = if rowF 10 (balF D) = rowF 10 (balF L) then 0 else 14 := by rw [hde, if_neg (by simp [hcd])]
      clear hde
      have hLo := checkD_ok hcd
      simp
      refine h17 _ _ _ ?_
      refine h15 _ _ _ ?_
      clear h15 h17 h18 h19
      have hbl := fun σ => bal47m (M := 1000000) (f := f) (σ := σ) (by omega) (by omega) hD (by omega) hN (by omega)
      refine ab_seq_k fun K25 h25 => ?_
      simp [take_bookC]
      refine callK_of (hbl _) ?_
      simp [take_bookC]
      refine h25 _ _ _ ?_
      clear h25 K25
      refine ab_seq_k fun K26 h26 => ?_
      refine ab_seq_k fun K27 h27 => ?_
      simp
      refine h27 _ _ _ ?_
      clear h27 K27
      refine ab_block_k fun K28 h28 => ?_
      subst hN
      refine ab_loop_k (fun m env σ => ∃ i : Nat, i + m = L.length ∧ env = [(1, slD L fl), (7, .s 2 0 0 N 1), (8, .i .i64 i)] ∧ σ = [.row 0 (bookC N D f), .row 0 (bookC N D f), .row 0 (ints (rowF N (fun k => balF D k - balF (L.take i) k)))]) L.length ⟨0, by omega, by simp, by rw [show (fun k => balF D k - balF (L.take 0) k) = balF D from funext fun k => (by show balF D k - 0 = balF D k; omega)]⟩ ?_
      rintro m env σ ⟨i, hi, rfl, rfl⟩ K29 h29
      rw [ic25_2]
      refine ab_seq_k fun K30 h30 => ?_
      refine ab_seq_k fun K31 h31 => ?_
      simp
      refine h31 _ _ _ ?_
      clear h31 K31
      refine ab_cond_of rfl (fun hc => ?_) (fun hc => ?_)
      · have hil : i < L.length := by simpa using hc
        obtain ⟨d, hd⟩ : ∃ d, L[i]? = some d := ⟨_, List.getElem?_eq_getElem hil⟩
        obtain ⟨z1, z2, z3, z4⟩ := lsD_get hd
        obtain ⟨hz2, z2'⟩ := List.getElem?_eq_some_iff.1 z2
        obtain ⟨hz3, z3'⟩ := List.getElem?_eq_some_iff.1 z3
        obtain ⟨hz4, z4'⟩ := List.getElem?_eq_some_iff.1 z4
        obtain ⟨⟨b1, b2⟩, ⟨b3, b4⟩, b5, b6, b7⟩ := hLo d (List.mem_of_getElem? hd)
        have hbs : ∀ k, -4000000000 ≤ balF D k - balF (L.take i) k ∧ balF D k - balF (L.take i) k ≤ 4000000000 := fun k => by
          have h1 := balF_small (by omega) (by omega) hD (by omega) k D.length (Nat.le_refl _)
          have h2 := balF_small (by omega) (by omega) hLo (by omega) k i (by omega)
          rw [List.take_length] at h1
          omega
        have hst2 : rowF N (fun k => balF D k - balF (L.take (i + 1)) k) = ((rowF N (fun k => balF D k - balF (L.take i) k)).set d.2.1.toNat ((balF D d.2.1.toNat - balF (L.take i) d.2.1.toNat) - d.2.2)).set d.1.toNat (upd (fun k => balF D k - balF (L.take i) k) d.2.1.toNat ((balF D d.2.1.toNat - balF (L.take i) d.2.1.toNat) - d.2.2) d.1.toNat + d.2.2) := by
          rw [rowF_set, rowF_set]
          refine rowF_congr fun k _ => ?_
          have := upd_dltm (f := fun k => balF D k - balF (L.take i) k) ⟨b1, b2⟩ ⟨b3, b4⟩ b5 k
          refine Eq.trans ?_ this.symm
          show balF D k - balF (L.take (i + 1)) k = balF D k - balF (L.take i) k - dlt d k
          rw [balF_take hd]
          omega
        simp
        refine h30 _ _ _ ?_
        clear h30 K30
        refine ab_seq_k fun K10 h10 => ?_
        refine ab_block_k fun K11 h11 => ?_
        generalize hF : (fun k => balF D k - balF (L.take i) k) = F at *
        have hFa : ∀ k, balF D k - balF (L.take i) k = F k := fun k => by rw [← hF]
        try simp only [hFa] at hbs
        try simp only [hFa] at hst2
        have hto : d.2.1.toNat < N := by omega
        have hfr : d.1.toNat < N := by omega
        have hbt := hbs d.2.1.toNat
        have hbf := hbs d.1.toNat
        refine ab_seq_k fun K13 h13 => ?_
        simp [abDs_consU, drU, recheck_cons, recheck_nil, rcK, IS.dst, hil, z2, z2', z3, z3', z4, z4', b3, b4, hto, rowF_get hto, wrap64 (x := F d.2.1.toNat - d.2.2) (by omega) (by omega)]
        rw [ints_set, rowF_set]
        refine h13 _ _ _ ?_
        clear h13 K13
        have hF1 : ∀ k, upd F d.2.1.toNat (F d.2.1.toNat - d.2.2) k = if k = d.2.1.toNat then F d.2.1.toNat - d.2.2 else F k := fun k => rfl
        have hbg := hF1 d.1.toNat
        rw [if_neg (by omega)] at hbg
        generalize hG : upd F d.2.1.toNat (F d.2.1.toNat - d.2.2) = G at *
        simp [abDs_consU, drU, recheck_cons, recheck_nil, rcK, IS.dst, hil, z2, z2', z3, z3', z4, z4', b1, b2, hfr, rowF_get hfr, wrap64 (x := G d.1.toNat + d.2.2) (by omega) (by omega)]
        rw [ints_set, rowF_set]
        refine h11 _ _ _ ?_
        refine h10 _ _ _ ?_
        simp [wrap64 (x := (i : Int) + 1) (by omega) (by omega)]
        refine h29 _ _ _ (again (m - 1) (by omega) ⟨i + 1, by omega, by simp, ?_⟩)
        rw [hst2, rowF_set, hG, rowF_set]
      · have hil : i = L.length := by simp at hc; omega
        subst hil
        rw [List.take_length]
        simp
        refine h28 _ _ _ ?_
        refine h26 _ _ _ ?_
        clear h26 h28 h29 h30
        generalize hF : (fun k => balF D k - balF L k) = F at *
        have hFa : ∀ k, balF D k - balF L k = F k := fun k => by rw [← hF]
        refine ab_seq_k fun K32 h32 => ?_
        refine ab_seq_k fun K33 h33 => ?_
        simp
        refine h33 _ _ _ ?_
        clear h33 K33
        refine ab_block_k fun K34 h34 => ?_
        refine ab_loop_k (fun m env σ => ∃ i : Nat, i + m = N ∧ (∀ k, k < i → F k = 0) ∧ env = [(7, .s 2 0 0 N 1), (9, .i .i64 i)] ∧ σ = [.row 0 (bookC N D f), .row 0 (bookC N D f), .row 0 (ints (rowF N F))]) N ⟨0, by omega, by simp, by simp, rfl⟩ ?_
        rintro m env σ ⟨i, hi, hz, rfl, rfl⟩ K35 h35
        rw [ic25_3]
        refine ab_seq_k fun K36 h36 => ?_
        refine ab_seq_k fun K37 h37 => ?_
        simp
        refine h37 _ _ _ ?_
        clear h37 K37
        refine ab_cond_of rfl (fun hc => ?_) (fun hc => ?_)
        · have hil : i < N := by simpa using hc
          simp
          refine h36 _ _ _ ?_
          clear h36 K36
          refine ab_seq_k fun K38 h38 => ?_
          refine ab_block_k fun K39 h39 => ?_
          refine ab_seq_k fun K40 h40 => ?_
          simp [hil, rowF_get hil]
          refine h40 _ _ _ ?_
          clear h40 K40
          refine ab_cond_of rfl (fun hc => ?_) (fun hc => ?_)
          · have hne : ¬ rowF 10 (balF D) = rowF 10 (balF L) := by
              intro h
              have := rowF_inj.1 h i (by omega)
              have h2 := hFa i
              have hc : ¬ F i = 0 := by simpa using hc
              omega
            refine ab_seq_k fun K41 h41 => ?_
            simp
            refine h41 _ _ _ ?_
            clear h41 K41
            simp
            exact fin_of 1 (by simp only [rs25, hde2]; rw [if_neg hne]; simp)
          · have h0 : F i = 0 := by simpa using hc
            simp
            refine h39 _ _ _ ?_
            refine h38 _ _ _ ?_
            simp [wrap64 (x := (i : Int) + 1) (by omega) (by omega)]
            refine h35 _ _ _ (again (m - 1) (by omega) ⟨i + 1, by omega, fun k hk => ?_, by simp, rfl⟩)
            by_cases hki : k = i
            · subst hki; exact h0
            · exact hz k (by omega)
        · have hil : i = N := by simp at hc; omega
          subst hil
          have heq : rowF 10 (balF D) = rowF 10 (balF L) := by
            refine rowF_congr fun k hk => ?_
            by_cases hki : k < i
            · have := hz k hki
              have h2 := hFa k
              omega
            · rw [balF_out hD (by omega), balF_out hLo (by omega)]
          simp
          refine h34 _ _ _ ?_
          refine h32 _ _ _ ?_
          refine ab_seq_k fun K42 h42 => ?_
          simp
          refine h42 _ _ _ ?_
          clear h42 K42
          simp
          exact fin_of 1 (by simp only [rs25, hde2]; rw [if_pos heq]; simp)
end Go.Ab
