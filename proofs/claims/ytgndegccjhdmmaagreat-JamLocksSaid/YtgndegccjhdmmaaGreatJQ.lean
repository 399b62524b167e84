/- What stays by keys: the map of a heap; CheckKeys of the program. -/
import Derived.Test.YtgndegccjhdmmaaGreatJN
set_option linter.unusedVariables false
set_option linter.unusedSimpArgs false
set_option maxHeartbeats 4000000
set_option maxRecDepth 100000
namespace Go.Ab
open Go Go.Proofs

theorem stays67 {J : List Lg} {f : Bool} {s : Nat} {σ : List O} (hN : J.length ≤ 12) (hs : s < 2 ^ J.length) : FSpec Tryz.prog 67 [heapV J f, .i .u16 s] σ (.i .u16 (left J s)) σ := by
  refine FSpec.frame (σ := σ) ?_ (by simp) rfl
  refine fn67.spec0 mixed noIt_ok ?_
  rw [ic67]
  have hst := stuck_is (F := left J) hs
  have hlen := stuckE_len (F := left J) (W := 2 ^ J.length)
  unfold heapV stV
  generalize stuckE (left J) (2 ^ J.length) = E at *
  refine ab_seq_k fun K1 h1 => ?_
  simp
  refine h1 _ _ _ ?_
  clear h1 K1
  refine ab_seq_k fun K2 h2 => ?_
  simp
  refine lkpC_sm (k := [(s : Int)]) (by omega) hlen ?_ rfl
  simp
  have hK : ∀ v, v = V.i .u16 (left J s) → K2 (some 0) [(4, v)] [] := by
    rintro v rfl
    refine h2 _ _ _ ?_
    simp
    exact fin_of 1 (by simp [rs67])
  cases hl : lk E [(s : Int)] with
  | none => rw [hl] at hst; exact hK _ hst
  | some v => rw [hl] at hst; exact hK _ hst
def keyE (J : List Lg) (k : List Int) : Int := if checkJ J ≠ 0 then checkJ J else if isL J.length k = false then 2 else if left J (setB k) ≠ 0 then 21 else 0
theorem setB_N {J : List Lg} {k : List Int} (h : isL J.length k = true) : setB k < 2 ^ J.length := setB_lt (isLF_mem h)
theorem checkKeys26 {J : List Lg} {f fk : Bool} {k : List Int} {σ : List O} (hJ : J.length ≤ 1000000) (hl : ∀ x ∈ J, x.2.1.length ≤ 1000000) (hk : k.length ≤ 1000000) : FSpec Tryz.prog 26 [jamV J f, sl k fk] σ (.i .i64 (keyE J k)) σ := by
  refine FSpec.frame (σ := σ) ?_ (by simp) rfl
  refine fn26.spec0 mixed noIt_ok ?_
  rw [ic26]
  refine ab_seq_k fun K1 h1 => ?_
  simp
  refine h1 _ _ _ ?_
  clear h1 K1
  refine ab_seq_k fun K2 h2 => ?_
  simp
  refine callK_of (open62 hJ hl hk) ?_
  unfold openV
  by_cases hc : checkJ J = 0
  · rw [if_neg (fun h => h hc)]
    have hJO := check_ok hl hc
    cases hi : isL J.length k with
    | false =>
      rw [if_pos rfl]
      simp
      refine h2 _ _ _ ?_
      clear h2 K2
      refine ab_seq_k fun K3 h3 => ?_
      refine ab_block_k fun K4 h4 => ?_
      refine ab_seq_k fun K5 h5 => ?_
      simp
      refine h5 _ _ _ ?_
      clear h5 K5
      refine ab_cond_of rfl (fun _ => ?_) (fun h => by cases h)
      refine ab_seq_k fun K6 h6 => ?_
      simp
      refine h6 _ _ _ ?_
      clear h6 K6
      simp
      refine fin_of 1 ?_
      simp [rs26, keyE, hc, hi]
    | true =>
      rw [if_neg (by simp)]
      obtain ⟨hs, hm⟩ := isL_set hJO hi
      have hset := fun σ => FSpec.frame (σ := σ) (setOf64 (l := k) (f := fk) hm hk) (by simp) rfl
      have hst := fun σ => stays67 (f := f) (σ := σ) hJO.2.1 (setB_N hi)
      simp
      refine h2 _ _ _ ?_
      clear h2 K2
      refine ab_seq_k fun K3 h3 => ?_
      refine ab_block_k fun K4 h4 => ?_
      refine ab_seq_k fun K5 h5 => ?_
      simp
      refine h5 _ _ _ ?_
      clear h5 K5
      refine ab_cond_of rfl (fun h => by cases h) (fun _ => ?_)
      refine ab_seq_k fun K7 h7 => ?_
      simp
      refine callK_of (hset _) ?_
      simp
      refine callK_of (hst _) ?_
      simp
      refine h7 _ _ _ ?_
      clear h7 K7
      by_cases hz : left J (setB k) = 0
      · refine ab_cond_of rfl (fun h => by simp [hz] at h) (fun _ => ?_)
        simp
        refine h4 _ _ _ (h3 _ _ _ ?_)
        refine ab_seq_k fun K8 h8 => ?_
        simp
        refine h8 _ _ _ ?_
        clear h8 K8
        simp
        refine fin_of 1 ?_
        simp [rs26, keyE, hc, hi, hz]
      · refine ab_cond_of rfl (fun _ => ?_) (fun h => by simp at h; omega)
        refine ab_seq_k fun K9 h9 => ?_
        simp
        refine h9 _ _ _ ?_
        clear h9 K9
        simp
        refine fin_of 1 ?_
        simp [rs26, keyE, hc, hi, hz]
  · rw [if_pos hc]
    simp
    refine h2 _ _ _ ?_
    clear h2 K2
    refine ab_seq_k fun K3 h3 => ?_
    refine ab_block_k fun K4 h4 => ?_
    refine ab_seq_k fun K5 h5 => ?_
    simp
    refine h5 _ _ _ ?_
    clear h5 K5
    refine ab_cond_of rfl (fun _ => ?_) (fun h => by simp [hc] at h)
    refine ab_seq_k fun K6 h6 => ?_
    simp
    refine h6 _ _ _ ?_
    clear h6 K6
    simp
    refine fin_of 1 ?_
    simp [rs26, keyE, hc]
def staysV (J : List Lg) (k : List Int) : V := if checkJ J ≠ 0 then .tup [.ss [] 0 true, .i .i64 (checkJ J)] else if isL J.length k = false then .tup [.ss [] 0 true, .i .i64 2] else if left J (setB k) = 0 then .tup [.ss [] 0 true, .i .i64 5] else .tup [sl (bl (left J (setB k)) 12) ((bl (left J (setB k)) 12).length == 0), .i .i64 0]
theorem staysV_pure {J k} : (staysV J k).pure = true := by
  unfold staysV
  split
  · rfl
  · split
    · rfl
    · split
      · rfl
      · simp
theorem stays21 {J : List Lg} {f fk : Bool} {k : List Int} {σ : List O} (hJ : J.length ≤ 1000000) (hl : ∀ x ∈ J, x.2.1.length ≤ 1000000) (hk : k.length ≤ 1000000) : FSpec Tryz.prog 21 [jamV J f, sl k fk] σ (staysV J k) σ := by
  refine FSpec.frame (σ := σ) ?_ (by simp) staysV_pure
  refine fn21.spec0 mixed noIt_ok ?_
  rw [ic21]
  refine ab_seq_k fun K1 h1 => ?_
  simp
  refine h1 _ _ _ ?_
  clear h1 K1
  refine ab_seq_k fun K2 h2 => ?_
  simp
  refine callK_of (open62 hJ hl hk) ?_
  unfold openV
  by_cases hc : checkJ J = 0
  · rw [if_neg (fun h => h hc)]
    have hJO := check_ok hl hc
    cases hi : isL J.length k with
    | false =>
      rw [if_pos rfl]
      simp
      refine h2 _ _ _ ?_
      clear h2 K2
      refine ab_seq_k fun K3 h3 => ?_
      refine ab_seq_k fun K5 h5 => ?_
      simp
      refine h5 _ _ _ ?_
      clear h5 K5
      refine ab_cond_of rfl (fun _ => ?_) (fun h => by cases h)
      refine ab_seq_k fun K6 h6 => ?_
      simp
      refine h6 _ _ _ ?_
      clear h6 K6
      simp
      refine fin_of 3 ?_
      simp [rs21, staysV, hc, hi]
    | true =>
      rw [if_neg (by simp)]
      obtain ⟨hs, hm⟩ := isL_set hJO hi
      have hset := fun σ => FSpec.frame (σ := σ) (setOf64 (l := k) (f := fk) hm hk) (by simp) rfl
      have hst := fun σ => stays67 (f := f) (σ := σ) hJO.2.1 (setB_N hi)
      have hlt := left_lt (J := J) (s := setB k) hJO.2.1
      simp
      refine h2 _ _ _ ?_
      clear h2 K2
      refine ab_seq_k fun K3 h3 => ?_
      refine ab_seq_k fun K5 h5 => ?_
      simp
      refine h5 _ _ _ ?_
      clear h5 K5
      refine ab_cond_of rfl (fun h => by cases h) (fun _ => ?_)
      simp
      refine h3 _ _ _ ?_
      clear h3 K3
      refine ab_seq_k fun K7 h7 => ?_
      simp
      refine callK_of (hset _) ?_
      simp
      refine callK_of (hst _) ?_
      simp
      refine h7 _ _ _ ?_
      clear h7 K7
      refine ab_seq_k fun K8 h8 => ?_
      refine ab_seq_k fun K9 h9 => ?_
      simp
      refine h9 _ _ _ ?_
      clear h9 K9
      by_cases hz : left J (setB k) = 0
      · refine ab_cond_of rfl (fun _ => ?_) (fun h => by simp [hz] at h)
        refine ab_seq_k fun K10 h10 => ?_
        simp
        refine h10 _ _ _ ?_
        clear h10 K10
        simp
        refine fin_of 3 ?_
        simp [rs21, staysV, hc, hi, hz]
      · refine ab_cond_of rfl (fun h => by simp at h; omega) (fun _ => ?_)
        simp
        refine h8 _ _ _ ?_
        refine ab_seq_k fun K11 h11 => ?_
        simp
        refine callK_of (list68 hlt) ?_
        simp
        refine h11 _ _ _ ?_
        clear h11 K11
        simp
        refine fin_of 3 ?_
        simp [rs21, staysV, hc, hi, hz]
  · rw [if_pos hc]
    simp
    refine h2 _ _ _ ?_
    clear h2 K2
    refine ab_seq_k fun K3 h3 => ?_
    refine ab_seq_k fun K5 h5 => ?_
    simp
    refine h5 _ _ _ ?_
    clear h5 K5
    refine ab_cond_of rfl (fun _ => ?_) (fun h => by simp [hc] at h)
    refine ab_seq_k fun K6 h6 => ?_
    simp
    refine h6 _ _ _ ?_
    clear h6 K6
    simp
    refine fin_of 3 ?_
    simp [rs21, staysV, hc]
end Go.Ab
