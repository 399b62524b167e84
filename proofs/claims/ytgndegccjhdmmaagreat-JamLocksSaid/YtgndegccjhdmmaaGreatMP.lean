/- Locks, of the program and of the reference. -/
import Derived.Test.YtgndegccjhdmmaaGreatMO
import Derived.Test.YtgndegccjhdmmaaGreatMM
set_option linter.unusedVariables false
set_option linter.unusedSimpArgs false
set_option maxHeartbeats 4000000
set_option maxRecDepth 100000
namespace Go.Ab
open Go Go.Proofs

def locksV (J : List Lg) : V := if checkJ J ≠ 0 then .tup [.ss [] 0 true, .i .i64 (checkJ J)] else .tup [.ss (lv (lexS (locksTo J (2 ^ J.length)))) (locksTo J (2 ^ J.length)).length ((locksTo J (2 ^ J.length)).length == 0), .i .i64 0]
theorem locksV_pure {J} : (locksV J).pure = true := by
  unfold locksV
  split
  · rfl
  · simp
theorem locks36 {J : List Lg} {f : Bool} {σ : List O} (hJ : J.length ≤ 1000000) (hl : ∀ x ∈ J, x.2.1.length ≤ 1000000) : FSpec Tryz.prog 36 [jamV J f] σ (locksV J) σ := by
  refine FSpec.frame (σ := σ) ?_ (by simp) locksV_pure
  have h62 := fun σ => open62 (f := f) (l := []) (fl := true) (σ := σ) hJ hl (by simp)
  refine fn36.spec0 mixed noIt_ok ?_
  rw [ic36]
  refine ab_seq_k fun K1 h1 => ?_
  simp
  refine h1 _ _ _ ?_
  clear h1 K1
  refine ab_seq_k fun K2 h2 => ?_
  simp
  refine callK_of (h62 _) ?_
  rcases open_nil (f := f) hl with ⟨hc, ho⟩ | ⟨hc, hJO, ho⟩
  · have hv : locksV J = .tup [.ss [] 0 true, .i .i64 (checkJ J)] := by unfold locksV; rw [if_pos hc]
    rw [ho]
    simp
    refine h2 _ _ _ ?_
    clear h2 K2
    refine ab_seq_k fun K3 h3 => ?_
    refine ab_seq_k fun K5 h5 => ?_
    simp
    refine h5 _ _ _ ?_
    clear h5 K5
    refine ab_cond_of rfl (fun _ => ?_) (fun h => by simp at h; omega)
    refine ab_seq_k fun K6 h6 => ?_
    simp
    refine h6 _ _ _ ?_
    clear h6 K6
    simp
    refine fin_of 3 ?_
    simp [rs36, hv]
  · have hN := hJO.2.1
    have hpw := pow12 hN
    have hk := fun σ => locks84F (J := J) (f := f) (σ := σ) hJO
    have hkl := locksTo_len (J := J) (i := 2 ^ J.length)
    have hmem : ∀ s ∈ locksTo J (2 ^ J.length), s < 2 ^ 12 := fun s hs => by
      have := (List.mem_filter.1 hs).1
      rw [List.mem_range] at this
      omega
    have hv : locksV J = .tup [.ss (lv (lexS (locksTo J (2 ^ J.length)))) (locksTo J (2 ^ J.length)).length ((locksTo J (2 ^ J.length)).length == 0), .i .i64 0] := by unfold locksV; rw [if_neg (by simp [hc])]
    have hls := fun f σ => lists76 (L := locksTo J (2 ^ J.length)) (f := f) (σ := σ) hmem (by omega)
    generalize locksTo J (2 ^ J.length) = L at *
    rw [ho]
    simp
    refine h2 _ _ _ ?_
    clear h2 K2
    refine ab_seq_k fun K3 h3 => ?_
    refine ab_seq_k fun K5 h5 => ?_
    simp
    refine h5 _ _ _ ?_
    clear h5 K5
    refine ab_cond_of rfl (fun h => by simp at h) (fun _ => ?_)
    simp
    refine h3 _ _ _ ?_
    clear h3 K3
    refine ab_seq_k fun K7 h7 => ?_
    simp
    refine callK_of (hk _) ?_
    simp
    refine callK_of (hls _ _) ?_
    simp
    refine h7 _ _ _ ?_
    simp
    refine fin_of 3 ?_
    simp [rs36, hv]
def inB (a b : Nat) : Bool := (bl a 12).all fun x => decide (x ∈ bl b 12)
theorem inB_eq {a b : Nat} (ha : a < 2 ^ 12) : inB a b = decide (less a b = 0) := by
  unfold inB
  rw [Bool.eq_iff_iff, List.all_eq_true, decide_eq_true_eq, less_zero]
  constructor
  · intro h j hj
    have := h _ (bl_mem.2 ⟨j, bit_small ha hj, rfl, hj⟩)
    rw [decide_eq_true_eq] at this
    obtain ⟨x, h1, h2, h3⟩ := bl_mem.1 this
    rw [show j = x by omega]
    exact h3
  · intro h x hx
    obtain ⟨j, h1, h2, h3⟩ := bl_mem.1 hx
    rw [decide_eq_true_eq]
    exact bl_mem.2 ⟨j, h1, h2, h j h3⟩
theorem within87 {a b : Nat} {σ : List O} (ha : a < 2 ^ 12) : FSpec Tryz.prog 87 [listV a, listV b] σ (.b (decide (less a b = 0))) σ := by
  rw [← inB_eq ha]
  refine FSpec.frame (σ := σ) ?_ (by simp [listV]) rfl
  have hbl := bl_len (s := a) (k := 12)
  have hbb := bl_len (s := b) (k := 12)
  refine fn87.spec0 mixed noIt_ok ?_
  rw [ic87]
  unfold listV inB
  generalize bl a 12 = A at *
  generalize bl b 12 = B at *
  refine ab_seq_k fun K1 h1 => ?_
  simp
  refine h1 _ _ _ ?_
  clear h1 K1
  refine ab_seq_k fun K2 h2 => ?_
  refine ab_seq_k fun K3 h3 => ?_
  simp
  refine h3 _ _ _ ?_
  clear h3 K3
  refine ab_block_k fun K4 h4 => ?_
  refine ab_loop_k (fun m env σ => ∃ n : Nat, n + m = A.length ∧ (A.all fun x => decide (x ∈ B)) = ((A.drop n).all fun x => decide (x ∈ B)) ∧ env = [(0, sl A (A.length == 0)), (1, sl B (B.length == 0)), (5, .i .i64 n)] ∧ σ = []) A.length ⟨0, by omega, by simp, by simp, rfl⟩ ?_
  rintro m env σ ⟨n, hn, hd, rfl, rfl⟩ K5 h5
  rw [ic87_0]
  refine ab_seq_k fun K6 h6 => ?_
  refine ab_seq_k fun K7 h7 => ?_
  simp
  refine h7 _ _ _ ?_
  clear h7 K7
  refine ab_cond_of rfl (fun hc1 => ?_) (fun hc1 => ?_)
  · have hnl : n < A.length := by simpa using hc1
    obtain ⟨b1, b2, bm⟩ := getD_get hnl
    rw [List.drop_eq_getElem_cons hnl, b2, List.all_cons] at hd
    generalize A.getD n 0 = y at *
    simp
    refine h6 _ _ _ ?_
    clear h6 K6
    refine ab_seq_k fun K8 h8 => ?_
    refine ab_block_k fun K9 h9 => ?_
    refine ab_seq_k fun K10 h10 => ?_
    simp [hnl, b1, b2]
    refine callK_of (has53 (by omega)) ?_
    simp
    refine h10 _ _ _ ?_
    by_cases hy : y ∈ B
    · rw [decide_eq_true hy, Bool.true_and] at hd
      refine ab_cond_of rfl (fun h => by simp [hy] at h) (fun _ => ?_)
      simp
      refine h9 _ _ _ (h8 _ _ _ ?_)
      simp [wrap64 (x := (n : Int) + 1) (by omega) (by omega)]
      exact h5 _ _ _ (again (m - 1) (by omega) ⟨n + 1, by omega, hd, by simp, rfl⟩)
    · rw [decide_eq_false hy, Bool.false_and] at hd
      refine ab_cond_of rfl (fun _ => ?_) (fun h => by simp [hy] at h)
      refine ab_seq_k fun K11 h11 => ?_
      simp
      refine h11 _ _ _ ?_
      clear h11 K11
      simp
      refine fin_of 1 ?_
      rw [hd]
      simp [rs87]
  · have hnl : A.length ≤ n := by simp at hc1; omega
    rw [List.drop_of_length_le hnl, List.all_nil] at hd
    simp
    refine h4 _ _ _ (h2 _ _ _ ?_)
    refine ab_seq_k fun K12 h12 => ?_
    simp
    refine h12 _ _ _ ?_
    clear h12 K12
    simp
    refine fin_of 1 ?_
    rw [hd]
    simp [rs87]
def lockA (J : List Lg) (i : Nat) : List Nat := (List.range i).filter (lockB J)
theorem lockA_succ {J : List Lg} {i : Nat} : lockA J (i + 1) = if lockB J i then lockA J i ++ [i] else lockA J i := by
  unfold lockA
  rw [List.range_succ, List.filter_append]
  cases h : lockB J i <;> simp [h]
theorem lockA_len {J : List Lg} {i : Nat} : (lockA J i).length ≤ i := by
  have := List.length_filter_le (lockB J) (List.range i)
  rw [List.length_range] at this
  exact this
/-- As the reference tells the tight ones. -/
def tightR (y x : Nat) : Bool := decide ((bl y 12).length ≥ (bl x 12).length) || !decide (less y x = 0)
theorem tightR_eq {J : List Lg} {W x : Nat} (hW : W ≤ 4096) (hx : x ∈ lockA J W) : (lockA J W).all (fun y => tightR y x) = minLock J x := by
  obtain ⟨h1, h2⟩ := List.mem_filter.1 hx
  rw [List.mem_range] at h1
  rw [Bool.eq_iff_iff, List.all_eq_true, minLock_iff]
  constructor
  · intro h
    refine ⟨h2, fun t ht hl => ?_⟩
    have hle := sub_le hl
    have := h t (List.mem_filter.2 ⟨List.mem_range.2 (by omega), ht⟩)
    unfold tightR at this
    rw [hl] at this
    simp at this
    false_or_by_contra
    rename_i hne
    have hex : ∃ j, t.testBit j = false ∧ x.testBit j = true := by
      false_or_by_contra
      rename_i hno
      refine hne (sub_anti hl (less_zero.2 fun j hj => ?_))
      cases hb : t.testBit j with
      | true => rfl
      | false => exact absurd ⟨j, hb, hj⟩ hno
    obtain ⟨j, hj1, hj2⟩ := hex
    have := bl_lt (k := 12) (less_zero.1 hl) ⟨j, bit_small (show x < 2 ^ 12 by omega) hj2, hj1, hj2⟩
    omega
  · rintro ⟨-, h⟩ y hy
    unfold tightR
    by_cases hl : less y x = 0
    · have := h y (List.mem_filter.1 hy).2 hl
      subst this
      simp
    · simp [hl]
theorem lockA_min {J : List Lg} {W : Nat} : (lockA J W).filter (minLock J) = locksTo J W := by
  unfold lockA locksTo
  rw [List.filter_filter]
  refine List.filter_congr fun x _ => ?_
  cases h : minLock J x with
  | false => simp
  | true => simp [(minLock_iff.1 h).1]
theorem locks37 {J : List Lg} {f : Bool} {σ : List O} (hJ : J.length ≤ 1000000) (hl : ∀ x ∈ J, x.2.1.length ≤ 1000000) : FSpec Tryz.prog 37 [jamV J f] σ (locksV J) σ := by
  refine FSpec.frame (σ := σ) ?_ (by simp) locksV_pure
  have h24 := fun σ => refCheck24 (f := f) (σ := σ) hJ (fun x hx => by have := hl x hx; omega)
  refine fn37.spec0 mixed noIt_ok ?_
  rw [ic37]
  refine ab_seq_k fun K1 h1 => ?_
  simp
  refine h1 _ _ _ ?_
  clear h1 K1
  refine ab_seq_k fun K2 h2 => ?_
  refine ab_seq_k fun K3 h3 => ?_
  simp
  refine callK_of (h24 _) ?_
  simp
  refine h3 _ _ _ ?_
  clear h3 K3
  by_cases hc : checkJ J = 0
  · have hJO := check_ok hl hc
    have hcp := check_parts hc
    have hv : locksV J = .tup [.ss (lv (lexS (locksTo J (2 ^ J.length)))) (locksTo J (2 ^ J.length)).length ((locksTo J (2 ^ J.length)).length == 0), .i .i64 0] := by unfold locksV; rw [if_neg (by simp [hc])]
    refine ab_cond_of rfl (fun h => by simp [hc] at h) (fun _ => ?_)
    simp
    refine h2 _ _ _ ?_
    clear h2 K2
    rw [hv]
    have hN := hJO.2.1
    have hpw := pow12 hN
    have hsh : IntKind.i64.wrap (2 ^ (min J.length 64)) = ((2 ^ J.length : Nat) : Int) := by
      rw [Nat.min_eq_left (by omega)]
      have : ((2 : Int) ^ J.length) = ((2 ^ J.length : Nat) : Int) := by simp
      rw [this]
      exact wrap64 (by omega) (by omega)
    have h85 : ∀ σ i, i < 2 ^ J.length → FSpec Tryz.prog 85 [jamV J f, sl (bl i 16) ((bl i 16).length == 0)] σ (.b (lockB J i)) σ := fun σ i hi => by
      have hb16 := bl_len (s := i) (k := 16)
      have hiL : isL J.length (bl i 16) = true := isL_bl hi
      have hm := isLF_mem hiL
      have := refIsLock85 (f := f) (fl := (bl i 16).length == 0) (l := bl i 16) (σ := σ) hJO hcp hm (by omega)
      rwa [lockR_eq hJO hcp hiL, setB_bl (show i < 2 ^ 16 by omega)] at this
    have h16 : ∀ i, i < 2 ^ J.length → bl i 16 = bl i 12 := fun i hi => bl_sh (s := i) (k := 12) (j := 4) (by omega)
    generalize hW : 2 ^ J.length = W at *
    have hA1 : lockA J 1 = [] := by simp [lockA, List.range_succ, lockB]
    refine ab_seq_k fun K4 h4 => ?_
    simp
    refine h4 _ _ _ ?_
    clear h4 K4
    refine ab_seq_k fun K5 h5 => ?_
    refine ab_seq_k fun K6 h6 => ?_
    simp
    refine h6 _ _ _ ?_
    clear h6 K6
    refine ab_block_k fun K7 h7 => ?_
    refine ab_loop_k (fun m env σ => ∃ (i : Nat) (v : V), i + m = W ∧ env = [(1, .p 0 0 0), (4, v), (5, .ss [] 0 true), (6, .i .i64 i)] ∧ σ[0]? = some (.row 0 [slJ J f]) ∧ Gr 1 1 σ v (lockA J i).length (lv (lockA J i))) (W - 1) ⟨1, .ss [] 0 true, by omega, by simp, rfl, by rw [hA1]; simpa [lv] using Gr.nil⟩ ?_
    rintro m env σ ⟨i, v, hi, rfl, s0, hg⟩ K8 h8
    obtain ⟨hs0, s0'⟩ := List.getElem?_eq_some_iff.1 s0
    have hks := lockA_succ (J := J) (i := i)
    have hkl := lockA_len (J := J) (i := i)
    rw [ic37_0]
    refine ab_seq_k fun K9 h9 => ?_
    refine ab_seq_k fun K10 h10 => ?_
    simp [s0, s0', hsh]
    refine h10 _ _ _ ?_
    clear h10 K10
    refine ab_cond_of rfl (fun hc1 => ?_) (fun hc1 => ?_)
    · have hil : i < W := by simpa using hc1
      simp
      refine h9 _ _ _ ?_
      clear h9 K9
      refine ab_seq_k fun K11 h11 => ?_
      refine ab_block_k fun K12 h12 => ?_
      have hend : ∀ env σ v, get env 1 = .p 0 0 0 → get env 4 = v → get env 5 = .ss [] 0 true → get env 6 = .i .i64 i → σ[0]? = some (.row 0 [slJ J f]) → Gr 1 1 σ v (lockA J (i + 1)).length (lv (lockA J (i + 1))) → K12 (some 0) env σ := by
        intro env σ v w1 w4 w5 w6 a0 hg
        refine h12 _ _ _ (h11 _ _ _ ?_)
        simp [w1, w4, w5, w6, wrap64 (x := (i : Int) + 1) (by omega) (by omega)]
        exact h8 _ _ _ (again (m - 1) (by omega) ⟨i + 1, v, by omega, by simp, a0, hg⟩)
      clear h11 h12 h8
      refine ab_seq_k fun K13 h13 => ?_
      simp [abDs_consU, drU, recheck_cons, recheck_nil, rcK, IS.dst, s0, s0']
      refine callK_of (bits86 (by omega)) ?_
      simp [abDs_consU, drU, recheck_cons, recheck_nil, rcK, IS.dst]
      refine callK_of (h85 _ _ hil) ?_
      simp [abDs_consU, drU, recheck_cons, recheck_nil, rcK, IS.dst]
      refine h13 _ _ _ ?_
      clear h13 K13
      cases hb : lockB J i with
      | false =>
        rw [hb, if_neg (by simp)] at hks
        refine ab_cond_of rfl (fun h => by cases h) (fun _ => ?_)
        simp
        exact hend _ _ v rfl rfl rfl rfl s0 (by rw [hks]; exact hg)
      | true =>
        rw [hb, if_pos rfl] at hks
        refine ab_cond_of rfl (fun _ => ?_) (fun h => by cases h)
        have hbid : idOf v ≠ some 0 := fun e => by have := (hg.id_ge e).1; omega
        simp
        refine callK_of (bits86 (by omega)) ?_
        rw [h16 i hil]
        simp
        refine appG hg (by omega) (by omega) (by omega) rfl ?_
        intro v' σ' hv' hgr
        simp
        refine hend _ _ v' rfl rfl rfl rfl (hgr.get hbid s0) ?_
        rw [hks]
        simpa [lv, listV] using hv'
    · have hiW : i = W := by simp at hc1; omega
      simp
      refine h7 _ _ _ (h5 _ _ _ ?_)
      clear h5 h7 h8 h9
      rw [hiW] at hg hkl
      have htr : ∀ x ∈ lockA J W, (lockA J W).all (fun y => tightR y x) = minLock J x := fun x hx => tightR_eq (by omega) hx
      have hAlt : ∀ x ∈ lockA J W, x < 2 ^ 12 := fun x hx => by
        have := List.mem_range.1 (List.mem_filter.1 hx).1
        omega
      have hfm := lockA_min (J := J) (W := W)
      have hsp := hg.slp
      clear hg s0 s0' hs0 hks hA1 hi hiW
      generalize lockA J W = A at *
      rw [← hfm] at hv ⊢
      refine ab_seq_k fun K20 h20 => ?_
      refine ab_seq_k fun K21 h21 => ?_
      simp
      refine h21 _ _ _ ?_
      clear h21 K21
      refine ab_block_k fun K22 h22 => ?_
      refine ab_loop_k (fun m env τ => ∃ j : Nat, j + m = A.length ∧ env = [(4, v), (5, .ss (lv (lexS ((A.take j).filter (minLock J)))) ((A.take j).filter (minLock J)).length (((A.take j).filter (minLock J)).length == 0)), (7, .i .i64 j)] ∧ τ = σ) A.length ⟨0, by omega, by simp [lexS, sortG, lv], rfl⟩ ?_
      rintro m env τ ⟨j, hj, rfl, rfl⟩ K23 h23
      rw [ic37_2]
      refine ab_seq_k fun K24 h24' => ?_
      refine ab_seq_k fun K25 h25 => ?_
      simp
      refine hsp.len ?_
      simp
      refine h25 _ _ _ ?_
      clear h25 K25
      refine ab_cond_of rfl (fun hc2 => ?_) (fun hc2 => ?_)
      · have hjl : j < A.length := by simpa using hc2
        have hx : A[j]? = some A[j] := List.getElem?_eq_getElem hjl
        have hxm := List.getElem_mem hjl
        have htk : (A.take (j + 1)).filter (minLock J) = if minLock J A[j] then (A.take j).filter (minLock J) ++ [A[j]] else (A.take j).filter (minLock J) := by
          rw [List.take_add_one, hx, Option.toList_some, List.filter_append]
          cases h : minLock J A[j] <;> simp [h]
        have htx := htr _ hxm
        have hx12 := hAlt _ hxm
        have hFl : ((A.take j).filter (minLock J)).length ≤ 4096 := by
          have h1 := List.length_filter_le (minLock J) (A.take j)
          rw [List.length_take] at h1
          omega
        generalize A[j] = x at *
        have hlx := lv_get hx
        generalize (A.take j).filter (minLock J) = F at *
        have hput := fun fl => put88 (S := lexS F) (x := x) (f := fl) (σ := τ) (by rw [lexS_len]; omega)
        rw [lexS_len] at hput
        generalize hKV : V.ss (lv (lexS F)) F.length (F.length == 0) = KV at *
        simp
        refine h24' _ _ _ ?_
        clear h24' K24
        refine ab_seq_k fun K26 h26 => ?_
        refine ab_block_k fun K27 h27 => ?_
        have hend : ∀ env, get env 4 = v → get env 5 = .ss (lv (lexS ((A.take (j + 1)).filter (minLock J)))) ((A.take (j + 1)).filter (minLock J)).length (((A.take (j + 1)).filter (minLock J)).length == 0) → get env 7 = .i .i64 j → K27 (some 0) env τ := by
          intro env w4 w5 w7
          refine h27 _ _ _ (h26 _ _ _ ?_)
          simp [w4, w5, w7, wrap64 (x := (j : Int) + 1) (by omega) (by omega)]
          exact h23 _ _ _ (again (m - 1) (by omega) ⟨j + 1, by omega, by simp, rfl⟩)
        clear h26 h27 h23
        refine ab_seq_k fun K28 h28 => ?_
        simp
        refine h28 _ _ _ ?_
        clear h28 K28
        refine ab_seq_k fun K29 h29 => ?_
        refine ab_seq_k fun K30 h30 => ?_
        simp
        refine h30 _ _ _ ?_
        clear h30 K30
        refine ab_block_k fun K31 h31 => ?_
        refine ab_loop_k (fun m env τ' => ∃ k : Nat, k + m = A.length ∧ env = [(4, v), (5, KV), (7, .i .i64 j), (8, .b ((A.take k).all fun y => tightR y x)), (9, .i .i64 k)] ∧ τ' = τ) A.length ⟨0, by omega, by simp, rfl⟩ ?_
        rintro m2 env τ' ⟨k, hk, rfl, rfl⟩ K32 h32
        rw [ic37_1]
        refine ab_seq_k fun K33 h33 => ?_
        refine ab_seq_k fun K34 h34 => ?_
        simp
        refine hsp.len ?_
        simp
        refine h34 _ _ _ ?_
        clear h34 K34
        refine ab_cond_of rfl (fun hc3 => ?_) (fun hc3 => ?_)
        · have hkl2 : k < A.length := by simpa using hc3
          have hy : A[k]? = some A[k] := List.getElem?_eq_getElem hkl2
          have hy12 := hAlt _ (List.getElem_mem hkl2)
          have hts : ((A.take (k + 1)).all fun y => tightR y x) = (((A.take k).all fun y => tightR y x) && tightR A[k] x) := by
            rw [List.take_add_one, hy, List.all_append]
            simp
          generalize A[k] = y at *
          have hly := lv_get hy
          have hbx := bl_len (s := x) (k := 12)
          have hby := bl_len (s := y) (k := 12)
          simp
          refine h33 _ _ _ ?_
          clear h33 K33
          refine ab_seq_k fun K35 h35 => ?_
          refine ab_block_k fun K36 h36 => ?_
          have hend2 : ∀ env, get env 4 = v → get env 5 = KV → get env 7 = .i .i64 j → get env 8 = .b ((A.take (k + 1)).all fun y => tightR y x) → get env 9 = .i .i64 k → K36 (some 0) env τ' := by
            intro env w4 w5 w7 w8 w9
            refine h36 _ _ _ (h35 _ _ _ ?_)
            simp [w4, w5, w7, w8, w9, wrap64 (x := (k : Int) + 1) (by omega) (by omega)]
            exact h32 _ _ _ (again (m2 - 1) (by omega) ⟨k + 1, by omega, by simp, rfl⟩)
          clear h35 h36 h32
          generalize ((A.take k).all fun y => tightR y x) = c at *
          cases c with
          | false =>
            simp [abDs_consU, drU, recheck_cons, recheck_nil, rcK, IS.dst]
            exact hend2 _ rfl rfl rfl (by rw [hts]; rfl) rfl
          | true =>
            rw [Bool.true_and] at hts
            simp [abDs_consU, drU, recheck_cons, recheck_nil, rcK, IS.dst]
            refine hsp.ixs hly fun a ha => ?_
            simp [abDs_consU, drU, recheck_cons, recheck_nil, rcK, IS.dst]
            refine ha _ ?_
            simp [abDs_consU, drU, recheck_cons, recheck_nil, rcK, IS.dst, listV]
            refine hsp.ixs hlx fun a ha => ?_
            simp [abDs_consU, drU, recheck_cons, recheck_nil, rcK, IS.dst]
            refine ha _ ?_
            simp [abDs_consU, drU, recheck_cons, recheck_nil, rcK, IS.dst, listV]
            by_cases hge : (bl x 12).length ≤ (bl y 12).length
            · simp [abDs_consU, drU, recheck_cons, recheck_nil, rcK, IS.dst, hge]
              exact hend2 _ rfl rfl rfl (by rw [hts]; simp [tightR, hge]) rfl
            · simp [abDs_consU, drU, recheck_cons, recheck_nil, rcK, IS.dst, hge]
              refine hsp.ixs hly fun a ha => ?_
              simp [abDs_consU, drU, recheck_cons, recheck_nil, rcK, IS.dst]
              refine ha _ ?_
              simp [abDs_consU, drU, recheck_cons, recheck_nil, rcK, IS.dst, listV]
              refine hsp.ixs hlx fun a ha => ?_
              simp [abDs_consU, drU, recheck_cons, recheck_nil, rcK, IS.dst]
              refine ha _ ?_
              simp [abDs_consU, drU, recheck_cons, recheck_nil, rcK, IS.dst]
              refine callK_of (within87 hy12) ?_
              simp [abDs_consU, drU, recheck_cons, recheck_nil, rcK, IS.dst]
              exact hend2 _ rfl rfl rfl (by rw [hts]; simp [tightR, hge]) rfl
        · have hkl3 : k = A.length := by simp at hc3; omega
          rw [hkl3, List.take_length, htx]
          simp
          refine h31 _ _ _ (h29 _ _ _ ?_)
          clear h29 h31 h32 h33
          refine ab_seq_k fun K40 h40 => ?_
          simp
          refine h40 _ _ _ ?_
          clear h40 K40
          cases hm : minLock J x with
          | false =>
            rw [hm, if_neg (by simp)] at htk
            refine ab_cond_of rfl (fun h => by cases h) (fun _ => ?_)
            simp
            exact hend _ rfl (by rw [htk]; exact hKV.symm) rfl
          | true =>
            rw [hm, if_pos rfl] at htk
            refine ab_cond_of rfl (fun _ => ?_) (fun h => by cases h)
            simp
            refine hsp.ixs hlx fun a ha => ?_
            simp
            refine ha _ ?_
            simp
            rw [← hKV]
            refine callK_of (hput _) ?_
            simp
            refine hend _ rfl ?_ rfl
            rw [htk]
            have hz : (F.length + 1 == 0) = false := rfl
            simp [lexS, sortG_snoc, hz]
      · have hjl : j = A.length := by simp at hc2; omega
        rw [hjl, List.take_length]
        simp
        refine h22 _ _ _ (h20 _ _ _ ?_)
        refine ab_seq_k fun K50 h50 => ?_
        simp
        refine h50 _ _ _ ?_
        clear h50 K50
        simp
        refine fin_of 3 ?_
        simp [rs37]
  · have hv : locksV J = .tup [.ss [] 0 true, .i .i64 (checkJ J)] := by unfold locksV; rw [if_pos hc]
    refine ab_cond_of rfl (fun _ => ?_) (fun h => by simp [hc] at h)
    refine ab_seq_k fun K4 h4 => ?_
    simp
    refine callK_of (h24 _) ?_
    simp
    refine h4 _ _ _ ?_
    clear h4 K4
    simp
    refine fin_of 3 ?_
    simp [rs37, hv]
end Go.Ab
