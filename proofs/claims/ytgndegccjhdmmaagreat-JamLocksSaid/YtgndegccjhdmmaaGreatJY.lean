/- The reference's Waves, Stays, CheckKeys. -/
import Derived.Test.YtgndegccjhdmmaaGreatJX
set_option linter.unusedVariables false
set_option linter.unusedSimpArgs false
set_option maxHeartbeats 4000000
set_option maxRecDepth 100000
namespace Go.Ab
open Go Go.Proofs

theorem check_parts {J : List Lg} (h : checkJ J = 0) : ∀ p ∈ J, isL J.length p.2.1 = true ∧ (p.1 = 0 ∨ p.1 = 1) := by
  unfold checkJ at h
  split at h
  · cases h
  · rename_i c1
    split at h
    · cases h
    · rename_i c2
      split at h
      · cases h
      · rename_i c3
        simp only [List.any_eq_true, not_exists, not_and, Bool.not_eq_true, Bool.not_eq_false', fit, Bool.and_eq_true, decide_eq_true_eq] at c2 c3
        exact fun p hp => ⟨c3 p hp, by have := c2 p hp; omega⟩
theorem left_N {J : List Lg} {s : Nat} : left J s < 2 ^ J.length := by
  refine Nat.lt_pow_two_of_testBit _ fun i hi => ?_
  unfold left
  rw [leftTo_bit]
  simp
  intro h
  omega
theorem bl_sh {s : Nat} : ∀ {k j : Nat}, s < 2 ^ k → bl s (k + j) = bl s k
  | k, 0, _ => rfl
  | k, j + 1, h => by
    have : s.testBit (k + j) = false := Nat.testBit_lt_two_pow (Nat.lt_of_lt_of_le h (Nat.pow_le_pow_right (by omega) (by omega)))
    rw [show k + (j + 1) = (k + j) + 1 by omega, bl, this]
    exact bl_sh h
theorem bl_nil {s : Nat} : ∀ {k : Nat}, s < 2 ^ k → (bl s k = [] ↔ s = 0)
  | 0, h => by simp [bl]; omega
  | k + 1, h => by
    rw [bl]
    cases hb : s.testBit k with
    | true =>
      simp
      rintro rfl
      simp at hb
    | false =>
      simp
      refine bl_nil ?_
      refine Nat.lt_pow_two_of_testBit _ fun i hi => ?_
      by_cases hik : i = k
      · rw [hik]; exact hb
      · exact Nat.testBit_lt_two_pow (Nat.lt_of_lt_of_le h (Nat.pow_le_pow_right (by omega) (by omega)))
theorem left_bit {J : List Lg} {s j : Nat} (hj : j < J.length) : (left J s).testBit j = decide (wr J (byB J) s J.length j < 0) := by
  unfold left
  rw [leftTo_bit]
  simp [hj]
theorem neg_left {J : List Lg} {s : Nat} : (-1) ∈ wavL J s ↔ left J s ≠ 0 := by
  unfold wavL rowF
  rw [List.mem_map]
  constructor
  · rintro ⟨j, hj, e⟩ h0
    have := left_bit (s := s) (List.mem_range.1 hj)
    rw [h0, e] at this
    simp at this
  · intro h
    false_or_by_contra
    rename_i hno
    refine h (Nat.eq_of_testBit_eq fun j => ?_)
    rw [Nat.zero_testBit]
    by_cases hj : j < J.length
    · rw [left_bit hj]
      refine decide_eq_false fun hn => hno ⟨j, List.mem_range.2 hj, ?_⟩
      have := wr_b (J := J) (B := byB J) (keys := s) (r := J.length) (n := j)
      omega
    · exact Nat.testBit_lt_two_pow (Nat.lt_of_lt_of_le left_N (Nat.pow_le_pow_right (by omega) (by omega)))
theorem list_cases {J : List Lg} {k : List Int} (h : ∀ x ∈ J, x.2.1.length ≤ 1000000) : (listE J k ≠ 0 ∧ (checkJ J ≠ 0 ∨ isL J.length k = false)) ∨ (listE J k = 0 ∧ checkJ J = 0 ∧ isL J.length k = true ∧ JOK J) := by
  unfold listE
  by_cases hc : checkJ J = 0
  · cases hi : isL J.length k with
    | true => exact .inr ⟨by simp [hc], hc, rfl, check_ok h hc⟩
    | false => exact .inl ⟨by simp [hc], .inr rfl⟩
  · exact .inl ⟨by simp [hc], .inl hc⟩

section
variable {J : List Lg} {f fk : Bool} {k : List Int} {σ : List O}
theorem waves20 (hJ : J.length ≤ 1000000) (hl : ∀ x ∈ J, x.2.1.length ≤ 1000000) (hk : k.length ≤ 1000000) : FSpec Tryz.prog 20 [jamV J f, sl k fk] σ (wavV J k) σ := by
  refine FSpec.frame (σ := σ) ?_ (by simp) wavV_pure
  have h65 := fun σ => refList65 (J := J) (f := f) (fl := fk) (l := k) (σ := σ) hJ (fun x hx => by have := hl x hx; omega) (by omega)
  have hcs := list_cases (k := k) hl
  have hv : wavV J k = if listE J k ≠ 0 then .tup [.ss [] 0 true, .i .i64 (listE J k)] else .tup [sl (wavL J (setB k)) false, .i .i64 0] := by
    unfold wavV listE
    by_cases hc : checkJ J = 0
    · cases hi : isL J.length k <;> simp [hc]
    · simp [hc]
  rw [hv]
  refine fn20.spec0 mixed noIt_ok ?_
  rw [ic20]
  refine ab_seq_k fun K1 h1 => ?_
  simp
  refine h1 _ _ _ ?_
  clear h1 K1
  refine ab_seq_k fun K2 h2 => ?_
  refine ab_seq_k fun K3 h3 => ?_
  simp
  refine callK_of (h65 _) ?_
  simp
  refine h3 _ _ _ ?_
  clear h3 K3
  rcases hcs with ⟨he, -⟩ | ⟨he, hc, hi, hJO⟩
  · refine ab_cond_of rfl (fun _ => ?_) (fun h => by simp at h; omega)
    refine ab_seq_k fun K4 h4 => ?_
    simp
    refine callK_of (h65 _) ?_
    simp
    refine h4 _ _ _ ?_
    clear h4 K4
    simp
    refine fin_of 3 ?_
    simp [rs20, he]
  · refine ab_cond_of rfl (fun h => by simp [he] at h) (fun _ => ?_)
    simp
    refine h2 _ _ _ ?_
    have hm := isLF_mem hi
    refine ab_seq_k fun K5 h5 => ?_
    simp
    refine callK_of (wavesOf66 hJO (check_parts hc) (fun x hx => (hm x hx).1) (by omega)) ?_
    simp
    refine h5 _ _ _ ?_
    clear h5 K5
    simp
    refine fin_of 3 ?_
    simp [rs20, he]
theorem checkKeys27 (hJ : J.length ≤ 1000000) (hl : ∀ x ∈ J, x.2.1.length ≤ 1000000) (hk : k.length ≤ 1000000) : FSpec Tryz.prog 27 [jamV J f, sl k fk] σ (.i .i64 (keyE J k)) σ := by
  refine FSpec.frame (σ := σ) ?_ (by simp) rfl
  have h65 := fun σ => refList65 (J := J) (f := f) (fl := fk) (l := k) (σ := σ) hJ (fun x hx => by have := hl x hx; omega) (by omega)
  have hcs := list_cases (k := k) hl
  have hv : keyE J k = if listE J k ≠ 0 then listE J k else if left J (setB k) ≠ 0 then 21 else 0 := by
    unfold keyE listE
    by_cases hc : checkJ J = 0
    · cases hi : isL J.length k <;> simp [hc]
    · simp [hc]
  rw [hv]
  refine fn27.spec0 mixed noIt_ok ?_
  rw [ic27]
  refine ab_seq_k fun K1 h1 => ?_
  simp
  refine h1 _ _ _ ?_
  clear h1 K1
  refine ab_seq_k fun K2 h2 => ?_
  refine ab_seq_k fun K3 h3 => ?_
  simp
  refine callK_of (h65 _) ?_
  simp
  refine h3 _ _ _ ?_
  clear h3 K3
  rcases hcs with ⟨he, -⟩ | ⟨he, hc, hi, hJO⟩
  · refine ab_cond_of rfl (fun _ => ?_) (fun h => by simp at h; omega)
    refine ab_seq_k fun K4 h4 => ?_
    simp
    refine callK_of (h65 _) ?_
    simp
    refine h4 _ _ _ ?_
    clear h4 K4
    simp
    refine fin_of 1 ?_
    simp [rs27, he]
  · refine ab_cond_of rfl (fun h => by simp [he] at h) (fun _ => ?_)
    simp
    refine h2 _ _ _ ?_
    clear h2 K2
    have hm := isLF_mem hi
    have hwl : (wavL J (setB k)).length = J.length := rowF_len
    refine ab_seq_k fun K5 h5 => ?_
    refine ab_seq_k fun K6 h6 => ?_
    simp
    refine callK_of (wavesOf66 hJO (check_parts hc) (fun x hx => (hm x hx).1) (by omega)) ?_
    simp
    refine callK_of (has53 (by rw [hwl]; omega)) ?_
    simp
    refine h6 _ _ _ ?_
    clear h6 K6
    by_cases hz : left J (setB k) = 0
    · have hn : ¬ (-1) ∈ wavL J (setB k) := fun h => neg_left.1 h hz
      refine ab_cond_of rfl (fun h => by simp [hn] at h) (fun _ => ?_)
      simp
      refine h5 _ _ _ ?_
      refine ab_seq_k fun K7 h7 => ?_
      simp
      refine h7 _ _ _ ?_
      clear h7 K7
      simp
      refine fin_of 1 ?_
      simp [rs27, he, hz]
    · have hn : (-1) ∈ wavL J (setB k) := neg_left.2 hz
      refine ab_cond_of rfl (fun _ => ?_) (fun h => by simp [hn] at h)
      refine ab_seq_k fun K8 h8 => ?_
      simp
      refine h8 _ _ _ ?_
      clear h8 K8
      simp
      refine fin_of 1 ?_
      simp [rs27, he, hz]
theorem stays22 (hJ : J.length ≤ 1000000) (hl : ∀ x ∈ J, x.2.1.length ≤ 1000000) (hk : k.length ≤ 1000000) : FSpec Tryz.prog 22 [jamV J f, sl k fk] σ (staysV J k) σ := by
  refine FSpec.frame (σ := σ) ?_ (by simp) staysV_pure
  have h65 := fun σ => refList65 (J := J) (f := f) (fl := fk) (l := k) (σ := σ) hJ (fun x hx => by have := hl x hx; omega) (by omega)
  have hcs := list_cases (k := k) hl
  refine fn22.spec0 mixed noIt_ok ?_
  rw [ic22]
  refine ab_seq_k fun K1 h1 => ?_
  simp
  refine h1 _ _ _ ?_
  clear h1 K1
  refine ab_seq_k fun K2 h2 => ?_
  refine ab_seq_k fun K3 h3 => ?_
  simp
  refine callK_of (h65 _) ?_
  simp
  refine h3 _ _ _ ?_
  clear h3 K3
  rcases hcs with ⟨he, he2⟩ | ⟨he, hc, hi, hJO⟩
  · refine ab_cond_of rfl (fun _ => ?_) (fun h => by simp at h; omega)
    refine ab_seq_k fun K4 h4 => ?_
    simp
    refine callK_of (h65 _) ?_
    simp
    refine h4 _ _ _ ?_
    clear h4 K4
    simp
    refine fin_of 3 ?_
    have hv : staysV J k = .tup [.ss [] 0 true, .i .i64 (listE J k)] := by
      unfold staysV listE
      by_cases hc : checkJ J = 0
      · have hi : isL J.length k = false := he2.resolve_left (fun h => h hc)
        simp [hc, hi]
      · simp [hc]
    simp [rs22, hv]
  · refine ab_cond_of rfl (fun h => by simp [he] at h) (fun _ => ?_)
    simp
    refine h2 _ _ _ ?_
    clear h2 K2
    have hm := isLF_mem hi
    have hN := hJO.2.1
    have hwl : (wavL J (setB k)).length = J.length := rowF_len
    have hwat : ∀ i, i < J.length → (wavL J (setB k))[i]? = some (wr J (byB J) (setB k) J.length i) := fun i h => rowF_get h
    have hlb := fun j hj => left_bit (J := J) (s := setB k) (j := j) hj
    have hln := left_N (J := J) (s := setB k)
    have hv : staysV J k = if left J (setB k) = 0 then .tup [.ss [] 0 true, .i .i64 5] else .tup [sl (bl (left J (setB k)) 12) ((bl (left J (setB k)) 12).length == 0), .i .i64 0] := by
      unfold staysV
      simp [hc, hi]
    rw [hv]
    refine ab_seq_k fun K5 h5 => ?_
    simp
    refine callK_of (wavesOf66 hJO (check_parts hc) (fun x hx => (hm x hx).1) (by omega)) ?_
    simp
    refine h5 _ _ _ ?_
    clear h5 K5
    have hwv : sl (wavL J (setB k)) false = V.ss (ints (wavL J (setB k))) J.length false := by unfold sl; rw [hwl]
    generalize wavL J (setB k) = w at *
    generalize left J (setB k) = lf at *
    refine ab_seq_k fun K6 h6 => ?_
    simp
    refine h6 _ _ _ ?_
    clear h6 K6
    refine ab_seq_k fun K7 h7 => ?_
    refine ab_seq_k fun K8 h8 => ?_
    simp
    refine h8 _ _ _ ?_
    clear h8 K8
    refine ab_block_k fun K9 h9 => ?_
    refine ab_loop_k (fun m env σ => ∃ (i : Nat) (v : V), i + m = J.length ∧ env = [(6, sl w false), (7, v), (8, .i .i64 i)] ∧ Gr 0 1 σ v (bl lf i).length (ints (bl lf i))) J.length ⟨0, .ss [] 0 true, by omega, by simp, by simpa [bl, ints] using Gr.nil⟩ ?_
    rintro m env σ ⟨i, v, him, rfl, hv⟩ K10 h10
    rw [ic22_0]
    refine ab_seq_k fun K11 h11 => ?_
    refine ab_seq_k fun K12 h12 => ?_
    simp [hwl]
    refine h12 _ _ _ ?_
    clear h12 K12
    refine ab_cond_of rfl (fun hc1 => ?_) (fun hc1 => ?_)
    · have hil : i < J.length := by simpa using hc1
      have hwi := hwat i hil
      obtain ⟨hwi1, hwi'⟩ := List.getElem?_eq_some_iff.1 hwi
      have hb := hlb i hil
      have hbl := bl_len (s := lf) (k := i)
      generalize wr J (byB J) (setB k) J.length i = y at *
      simp
      refine h11 _ _ _ ?_
      clear h11 K11
      refine ab_seq_k fun K13 h13 => ?_
      refine ab_block_k fun K14 h14 => ?_
      refine ab_seq_k fun K15 h15 => ?_
      simp [hwl, hil, hwi, hwi']
      refine h15 _ _ _ ?_
      clear h15 K15
      have hend : ∀ env σ v, get env 6 = sl w false → get env 7 = v → get env 8 = .i .i64 i → Gr 0 1 σ v (bl lf (i + 1)).length (ints (bl lf (i + 1))) → K14 (some 0) env σ := by
        intro env σ v w6 w7 w8 hg
        refine h14 _ _ _ (h13 _ _ _ ?_)
        simp [w6, w7, w8, wrap64 (x := (i : Int) + 1) (by omega) (by omega)]
        exact h10 _ _ _ (again (m - 1) (by omega) ⟨i + 1, v, by omega, by simp, hg⟩)
      clear h10 h13 h14
      by_cases hy : y < 0
      · rw [decide_eq_true hy] at hb
        refine ab_cond_of rfl (fun _ => ?_) (fun h => by simp [hy] at h)
        simp
        refine appG hv (by omega) (by omega) (by omega) rfl ?_
        intro v' σ' hv' hgr
        simp
        exact hend _ _ _ (by simp) rfl rfl (by simpa [bl, hb, ints] using hv')
      · rw [decide_eq_false hy] at hb
        refine ab_cond_of rfl (fun h => by simp [hy] at h) (fun _ => ?_)
        simp
        exact hend _ _ _ (by simp) rfl rfl (by simpa [bl, hb, ints] using hv)
    · have hil : i = J.length := by simp at hc1; omega
      subst hil
      have h12 : bl lf 12 = bl lf J.length := by
        have := bl_sh (j := 12 - J.length) hln
        rw [← this]
        congr 1
        omega
      have hnil := bl_nil hln
      simp
      refine h9 _ _ _ (h7 _ _ _ ?_)
      clear h7 h9 h10 h11
      refine ab_seq_k fun K20 h20 => ?_
      refine ab_seq_k fun K21 h21 => ?_
      simp
      refine lenG hv ?_
      simp
      refine h21 _ _ _ ?_
      clear h21 K21
      by_cases hz : lf = 0
      · have hn := hnil.2 hz
        refine ab_cond_of rfl (fun _ => ?_) (fun h => by simp [hn] at h)
        refine ab_seq_k fun K22 h22 => ?_
        simp
        refine h22 _ _ _ ?_
        clear h22 K22
        simp
        refine fin_of 3 ?_
        simp [rs22, hz]
      · have hn : bl lf J.length ≠ [] := fun h => hz (hnil.1 h)
        refine ab_cond_of rfl (fun h => by simp [hn] at h) (fun _ => ?_)
        simp
        refine h20 _ _ _ ?_
        refine ab_seq_k fun K23 h23 => ?_
        simp
        refine h23 _ _ _ ?_
        clear h23 K23
        simp
        refine fin_of 3 ?_
        simp [-frz, rs22, hz]
        rw [frz_two' (frz_G hv (by simp)), h12]
end
end Go.Ab
