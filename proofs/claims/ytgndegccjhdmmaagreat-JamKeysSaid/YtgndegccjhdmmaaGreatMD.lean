/- Keys, of the program and of the reference. -/
import Derived.Test.YtgndegccjhdmmaaGreatMA
set_option linter.unusedVariables false
set_option linter.unusedSimpArgs false
set_option maxHeartbeats 4000000
set_option maxRecDepth 100000
namespace Go.Ab
open Go Go.Proofs

theorem less_sub_all : ((List.range 4096).all fun s => (List.range 12).all fun n => !s.testBit n || s - 2 ^ n == less s (2 ^ n)) = true := by decide +kernel
theorem less_sub {s n : Nat} (hs : s < 4096) (hn : n < 12) (h : s.testBit n = true) : s - 2 ^ n = less s (2 ^ n) := by
  have := List.all_eq_true.1 (List.all_eq_true.1 less_sub_all s (List.mem_range.2 hs)) n (List.mem_range.2 hn)
  rw [h] at this
  simpa using this
def goodI (J : List Lg) (s : Nat) : Int := if left J s = 0 then 1 else 0
theorem goodI_one {J : List Lg} {s : Nat} : (goodI J s = 1) = (left J s = 0) := by
  unfold goodI; split <;> simp_all
theorem goodI_zero {J : List Lg} {s : Nat} : (goodI J s = 0) = ¬ (left J s = 0) := by
  unfold goodI; split <;> simp_all

theorem frees79 {J : List Lg} {f : Bool} {σ : List O} (hJ : JOK J) (hc : ∀ p ∈ J, isL J.length p.2.1 = true ∧ (p.1 = 0 ∨ p.1 = 1)) : FSpec Tryz.prog 79 [jamV J f] σ (sl (rowF (2 ^ J.length) (goodI J)) false) σ := by
  refine FSpec.frame (σ := σ) ?_ (by simp) (by simp)
  have hN := hJ.2.1
  have hpw := pow12 hN
  refine fn79.spec0 mixed noIt_ok ?_
  rw [ic79]
  have hsh : IntKind.i64.wrap (2 ^ (min J.length 64)) = ((2 ^ J.length : Nat) : Int) := by
    rw [Nat.min_eq_left (by omega)]
    have : ((2 : Int) ^ J.length) = ((2 ^ J.length : Nat) : Int) := by simp
    rw [this]
    exact wrap64 (by omega) (by omega)
  have hlt : ∀ s, s < 2 ^ J.length → s < 2 ^ J.length := fun _ h => h
  generalize hW : 2 ^ J.length = W at *
  refine ab_seq_k fun K1 h1 => ?_
  simp
  refine h1 _ _ _ ?_
  clear h1 K1
  refine ab_seq_k fun K2 h2 => ?_
  simp
  refine h2 _ _ _ ?_
  clear h2 K2
  refine ab_seq_k fun K3 h3 => ?_
  refine ab_seq_k fun K4 h4 => ?_
  simp
  refine h4 _ _ _ ?_
  clear h4 K4
  refine ab_block_k fun K5 h5 => ?_
  refine ab_loop_k (fun m env σ => ∃ (i : Nat) (v : V), i + m = W ∧ env = [(1, .p 0 0 0), (3, v), (4, .i .i64 i)] ∧ σ[0]? = some (.row 0 [slJ J f]) ∧ Gr 1 1 σ v i (ints (rowF i (goodI J)))) W ⟨0, .ss [] 0 true, by omega, by simp, rfl, by simpa [rowF, ints] using Gr.nil⟩ ?_
  rintro m env σ ⟨i, v, hi, rfl, s0, hv⟩ K6 h6
  obtain ⟨hs0, s0'⟩ := List.getElem?_eq_some_iff.1 s0
  rw [ic79_0]
  refine ab_seq_k fun K7 h7 => ?_
  refine ab_seq_k fun K8 h8 => ?_
  simp [s0, s0', hsh]
  refine h8 _ _ _ ?_
  clear h8 K8
  refine ab_cond_of rfl (fun hc1 => ?_) (fun hc1 => ?_)
  · have hil : i < W := by simpa using hc1
    have hi16 : i < 2 ^ 16 := by omega
    have hw := wavesOf66 (f := f) (fk := (bl i 16).length == 0) (k := bl i 16) (σ := σ) hJ hc (fun x hx => by obtain ⟨j, -, rfl, -⟩ := bl_mem.1 hx; omega) (by have := bl_len (s := i) (k := 16); omega)
    rw [setB_bl hi16] at hw
    have hwl : (wavL J i).length = J.length := rowF_len
    have hneg := neg_left (J := J) (s := i)
    have hbid : idOf v ≠ some 0 := fun e => by have := (hv.id_ge e).1; omega
    simp
    refine h7 _ _ _ ?_
    clear h7 K7
    refine ab_seq_k fun K9 h9 => ?_
    refine ab_block_k fun K10 h10 => ?_
    have hend : ∀ env σ v, get env 1 = .p 0 0 0 → get env 3 = v → get env 4 = .i .i64 i → σ[0]? = some (.row 0 [slJ J f]) → Gr 1 1 σ v (i + 1) (ints (rowF (i + 1) (goodI J))) → K10 (some 0) env σ := by
      intro env σ v w1 w3 w4 a0 hg
      refine h10 _ _ _ (h9 _ _ _ ?_)
      simp [w1, w3, w4, wrap64 (x := (i : Int) + 1) (by omega) (by omega)]
      exact h6 _ _ _ (again (m - 1) (by omega) ⟨i + 1, v, by omega, by simp, a0, hg⟩)
    clear h9 h10 h6
    refine ab_seq_k fun K11 h11 => ?_
    simp
    refine h11 _ _ _ ?_
    clear h11 K11
    refine ab_seq_k fun K12 h12 => ?_
    have hK12 : ∀ env, get env 1 = .p 0 0 0 → get env 3 = v → get env 4 = .i .i64 i → get env 5 = .i .i64 (goodI J i) → K12 (some 0) env σ := by
      intro env w1 w3 w4 w5
      refine h12 _ _ _ ?_
      simp [w1, w3, w4, w5]
      refine appG hv (by omega) (by omega) (by omega) rfl ?_
      intro v' σ' hv' hgr
      simp [w1, w4]
      exact hend _ _ _ (by simp [w1]) rfl (by simp [w4]) (hgr.get hbid s0) (by rw [rowF_succ]; simpa [ints] using hv')
    clear h12
    refine ab_seq_k fun K13 h13 => ?_
    simp [abDs_consU, drU, recheck_cons, recheck_nil, rcK, IS.dst, s0, s0']
    refine callK_of (bits86 (by omega)) ?_
    simp [abDs_consU, drU, recheck_cons, recheck_nil, rcK, IS.dst]
    refine callK_of hw ?_
    simp [abDs_consU, drU, recheck_cons, recheck_nil, rcK, IS.dst]
    refine callK_of (has53 (by omega)) ?_
    simp [abDs_consU, drU, recheck_cons, recheck_nil, rcK, IS.dst]
    refine h13 _ _ _ ?_
    by_cases hl : left J i = 0
    · have hn : ¬ (-1) ∈ wavL J i := fun h => hneg.1 h hl
      refine ab_cond_of rfl (fun h => by simp [hn] at h) (fun _ => ?_)
      simp
      exact hK12 _ rfl rfl rfl (by simp [goodI, hl])
    · have hn : (-1) ∈ wavL J i := hneg.2 hl
      refine ab_cond_of rfl (fun _ => ?_) (fun h => by simp [hn] at h)
      simp
      exact hK12 _ rfl rfl rfl (by simp [goodI, hl])
  · have hil : i = W := by simp at hc1; omega
    subst hil
    simp
    refine h5 _ _ _ (h3 _ _ _ ?_)
    refine ab_seq_k fun K20 h20 => ?_
    simp
    refine h20 _ _ _ ?_
    clear h20 K20
    simp
    refine fin_of 2 ?_
    have hz : (i == 0) = false := beq_eq_false_iff_ne.2 (by omega)
    simp [-frz, rs79]
    rw [frz_G hv (by simp), hz]
    simp

/-- The tight ones of sets that are good. -/
theorem least78 {J : List Lg} {f : Bool} {σ : List O} (hN : J.length ≤ 12) : FSpec Tryz.prog 78 [sl (rowF (2 ^ J.length) (goodI J)) f] σ (.ss (lv (lexS (keysTo J (2 ^ J.length)))) (keysTo J (2 ^ J.length)).length ((keysTo J (2 ^ J.length)).length == 0)) σ := by
  refine FSpec.frame (σ := σ) ?_ (by simp) (by simp)
  have hpw := pow12 hN
  have hle : ∀ s, s < 2 ^ J.length → s < 4096 := fun s h => by omega
  refine fn78.spec0 mixed noIt_ok ?_
  rw [ic78]
  have hrl : ∀ W, (rowF W (goodI J)).length = W := fun W => rowF_len
  have hra : ∀ W s, s < W → (rowF W (goodI J))[s]? = some (goodI J s) := fun W s h => rowF_get h
  generalize hW : 2 ^ J.length = W at *
  have hrl := hrl W
  have hra := hra W
  generalize rowF W (goodI J) = G at *
  refine ab_seq_k fun K1 h1 => ?_
  simp
  refine h1 _ _ _ ?_
  clear h1 K1
  refine ab_seq_k fun K2 h2 => ?_
  simp
  refine h2 _ _ _ ?_
  clear h2 K2
  refine ab_seq_k fun K3 h3 => ?_
  refine ab_seq_k fun K4 h4 => ?_
  simp
  refine h4 _ _ _ ?_
  clear h4 K4
  refine ab_block_k fun K5 h5 => ?_
  refine ab_loop_k (fun m env σ => ∃ i : Nat, i + m = W ∧ env = [(0, sl G f), (3, .ss (lv (lexS (keysTo J i))) (keysTo J i).length ((keysTo J i).length == 0)), (4, .i .i64 i)] ∧ σ = []) W ⟨0, by omega, by simp [keysTo, lexS, sortG, lv], rfl⟩ ?_
  rintro m env σ ⟨i, hi, rfl, rfl⟩ K6 h6
  rw [ic78_1]
  refine ab_seq_k fun K7 h7 => ?_
  refine ab_seq_k fun K8 h8 => ?_
  simp [hrl]
  refine h8 _ _ _ ?_
  clear h8 K8
  refine ab_cond_of rfl (fun hc1 => ?_) (fun hc1 => ?_)
  · have hil : i < W := by simpa using hc1
    have hi12 : i < 4096 := by omega
    have hGi := hra i hil
    obtain ⟨hGi1, hGi'⟩ := List.getElem?_eq_some_iff.1 hGi
    have h16 : bl i 16 = bl i 12 := by
      have := bl_sh (s := i) (k := 12) (j := 4) (by omega)
      exact this
    have hbl := bl_len (s := i) (k := 12)
    have hkl := keysTo_len (J := J) (i := i)
    have hks := keysTo_succ (J := J) (i := i)
    have htb : tightB J i = (decide (left J i = 0) && !looseTo J i 12) := rfl
    have hput := fun fl => put88 (S := lexS (keysTo J i)) (x := i) (f := fl) (σ := []) (by rw [lexS_len]; omega)
    rw [lexS_len] at hput
    simp
    refine h7 _ _ _ ?_
    clear h7 K7
    refine ab_seq_k fun K9 h9 => ?_
    refine ab_block_k fun K10 h10 => ?_
    have hend : ∀ env, get env 0 = sl G f → get env 3 = .ss (lv (lexS (keysTo J (i + 1)))) (keysTo J (i + 1)).length ((keysTo J (i + 1)).length == 0) → get env 4 = .i .i64 i → K10 (some 0) env [] := by
      intro env w0 w3 w4
      refine h10 _ _ _ (h9 _ _ _ ?_)
      simp [w0, w3, w4, wrap64 (x := (i : Int) + 1) (by omega) (by omega)]
      exact h6 _ _ _ (again (m - 1) (by omega) ⟨i + 1, by omega, by simp, rfl⟩)
    clear h9 h10 h6
    generalize hV : V.ss (lv (lexS (keysTo J i))) (keysTo J i).length ((keysTo J i).length == 0) = KV at *
    refine ab_seq_k fun K11 h11 => ?_
    simp [hrl, hil, hGi, hGi', goodI_one]
    refine h11 _ _ _ ?_
    clear h11 K11
    refine ab_seq_k fun K12 h12 => ?_
    simp
    refine callK_of (bits86 (by omega)) ?_
    simp
    refine h12 _ _ _ ?_
    clear h12 K12
    rw [h16]
    refine ab_seq_k fun K13 h13 => ?_
    refine ab_seq_k fun K14 h14 => ?_
    simp
    refine h14 _ _ _ ?_
    clear h14 K14
    refine ab_block_k fun K15 h15 => ?_
    refine ab_loop_k (fun m env σ => ∃ n : Nat, n + m = (bl i 12).length ∧ env = [(0, sl G f), (3, KV), (4, .i .i64 i), (5, .b (decide (left J i = 0) && !looseTo J i n)), (6, sl (bl i 12) ((bl i 12).length == 0)), (7, .i .i64 n)] ∧ σ = []) (bl i 12).length ⟨0, by omega, by simp [looseTo], rfl⟩ ?_
    rintro m2 env σ ⟨n, hn, rfl, rfl⟩ K16 h16'
    rw [ic78_0]
    refine ab_seq_k fun K17 h17 => ?_
    refine ab_seq_k fun K18 h18 => ?_
    simp
    refine h18 _ _ _ ?_
    clear h18 K18
    refine ab_cond_of rfl (fun hc2 => ?_) (fun hc2 => ?_)
    · have hnl : n < (bl i 12).length := by simpa using hc2
      obtain ⟨b1, b2, bm⟩ := getD_get hnl
      have hls := looseTo_succ (J := J) b1
      obtain ⟨x, hx12, hxe, hxb⟩ := bl_mem.1 bm
      generalize (bl i 12).getD n 0 = y at *
      subst hxe
      rw [Int.toNat_natCast] at hls
      have hsub := less_sub hi12 hx12 hxb
      have hge : 2 ^ x ≤ i := Nat.ge_two_pow_of_testBit hxb
      have hsh : IntKind.i64.wrap (2 ^ (min x 64)) = ((2 ^ x : Nat) : Int) := by
        rw [Nat.min_eq_left (by omega)]
        have : ((2 : Int) ^ x) = ((2 ^ x : Nat) : Int) := by simp
        rw [this]
        generalize 2 ^ x = pw at *
        exact wrap64 (by omega) (by omega)
      generalize 2 ^ x = pw at *
      rw [← hsub] at hls
      obtain ⟨d, hd⟩ : ∃ d, d = i - pw := ⟨_, rfl⟩
      rw [← hd] at hls
      have e5 : IntKind.i64.wrap ((i : Int) - pw) = d := by rw [wrap64 (by omega) (by omega)]; omega
      have hGd := hra d (by omega)
      obtain ⟨hGd1, hGd'⟩ := List.getElem?_eq_some_iff.1 hGd
      have hdW : d < W := by omega
      have hres : (decide (left J i = 0) && !looseTo J i (n + 1)) = ((decide (left J i = 0) && !looseTo J i n) && decide (goodI J d = 0)) := by
        rw [hls]
        have : decide (goodI J d = 0) = !decide (left J d = 0) := by
          rw [Bool.eq_iff_iff, decide_eq_true_eq, goodI_zero]
          simp
        rw [this]
        cases decide (left J i = 0) <;> cases looseTo J i n <;> cases decide (left J d = 0) <;> rfl
      simp
      refine h17 _ _ _ ?_
      clear h17 K17
      refine ab_seq_k fun K18 h18 => ?_
      refine ab_block_k fun K19 h19 => ?_
      have hend2 : ∀ env, get env 0 = sl G f → get env 3 = KV → get env 4 = .i .i64 i → get env 5 = .b (decide (left J i = 0) && !looseTo J i (n + 1)) → get env 6 = sl (bl i 12) ((bl i 12).length == 0) → get env 7 = .i .i64 n → K19 (some 0) env [] := by
        intro env w0 w3 w4 w5 w6 w7
        refine h19 _ _ _ (h18 _ _ _ ?_)
        simp [w0, w3, w4, w5, w6, w7, wrap64 (x := (n : Int) + 1) (by omega) (by omega)]
        refine h16' _ _ _ (again (m2 - 1) (by omega) ⟨n + 1, by omega, ?_, rfl⟩)
        simp
      clear h18 h19 h16'
      generalize (decide (left J i = 0) && !looseTo J i n) = c at *
      cases c with
      | false =>
        simp
        exact hend2 _ rfl rfl rfl (by rw [hres]; rfl) rfl rfl
      | true =>
        simp [hnl, b1, b2, hsh, e5, hrl, hdW, hGd, hGd']
        exact hend2 _ rfl rfl rfl (by rw [hres]; simp) rfl rfl
    · have hnl : n = (bl i 12).length := by simp at hc2; omega
      have hlast : looseTo J i n = looseTo J i 12 := by
        unfold looseTo
        rw [List.take_of_length_le (by omega), List.take_of_length_le (by omega)]
      rw [hlast, ← htb]
      simp
      refine h15 _ _ _ (h13 _ _ _ ?_)
      clear h15 h13 h16' h17
      refine ab_seq_k fun K20 h20 => ?_
      simp
      refine h20 _ _ _ ?_
      clear h20 K20
      cases ht : tightB J i with
      | false =>
        rw [ht, if_neg (by simp)] at hks
        refine ab_cond_of rfl (fun h => by cases h) (fun _ => ?_)
        simp
        exact hend _ rfl (by rw [hks]; exact hV.symm) rfl
      | true =>
        rw [ht, if_pos rfl] at hks
        refine ab_cond_of rfl (fun _ => ?_) (fun h => by cases h)
        simp
        rw [← hV]
        refine callK_of (FSpec.frame (σ := _) (hput _) (by simp [listV]) (by simp)) ?_
        simp
        refine hend _ rfl ?_ rfl
        rw [hks]
        simp [lexS, sortG_snoc]
  · have hil : i = W := by simp at hc1; omega
    subst hil
    simp
    refine h5 _ _ _ (h3 _ _ _ ?_)
    refine ab_seq_k fun K30 h30 => ?_
    simp
    refine h30 _ _ _ ?_
    clear h30 K30
    simp
    refine fin_of 1 ?_
    simp [rs78]

def keysV (J : List Lg) : V := if checkJ J ≠ 0 then .tup [.ss [] 0 true, .i .i64 (checkJ J)] else .tup [.ss (lv (lexS (keysTo J (2 ^ J.length)))) (keysTo J (2 ^ J.length)).length ((keysTo J (2 ^ J.length)).length == 0), .i .i64 0]
theorem keysV_pure {J} : (keysV J).pure = true := by
  unfold keysV
  split
  · rfl
  · simp
theorem open_nil {J : List Lg} {f : Bool} (hl : ∀ x ∈ J, x.2.1.length ≤ 1000000) : (checkJ J ≠ 0 ∧ openV J f [] = .tup [.np, .i .i64 (checkJ J)]) ∨ (checkJ J = 0 ∧ JOK J ∧ openV J f [] = .tup [heapV J f, .i .i64 0]) := by
  by_cases hc : checkJ J = 0
  · exact .inr ⟨hc, check_ok hl hc, by unfold openV; rw [if_neg (by simp [hc]), if_neg (by simp [isL, isLF])]⟩
  · exact .inl ⟨hc, by unfold openV; rw [if_pos hc]⟩
theorem keys31 {J : List Lg} {f : Bool} {σ : List O} (hJ : J.length ≤ 1000000) (hl : ∀ x ∈ J, x.2.1.length ≤ 1000000) : FSpec Tryz.prog 31 [jamV J f] σ (keysV J) σ := by
  refine FSpec.frame (σ := σ) ?_ (by simp) keysV_pure
  have h62 := fun σ => open62 (f := f) (l := []) (fl := true) (σ := σ) hJ hl (by simp)
  refine fn31.spec0 mixed noIt_ok ?_
  rw [ic31]
  refine ab_seq_k fun K1 h1 => ?_
  simp
  refine h1 _ _ _ ?_
  clear h1 K1
  refine ab_seq_k fun K2 h2 => ?_
  simp
  refine callK_of (h62 _) ?_
  rcases open_nil (f := f) hl with ⟨hc, ho⟩ | ⟨hc, hJO, ho⟩
  · have hv : keysV J = .tup [.ss [] 0 true, .i .i64 (checkJ J)] := by unfold keysV; rw [if_pos hc]
    rw [ho]
    simp
    refine h2 _ _ _ ?_
    clear h2 K2
    refine ab_seq_k fun K3 h3 => ?_
    refine ab_seq_k fun K5 h5 => ?_
    simp
    refine h5 _ _ _ ?_
    clear h5 K5
    refine ab_cond_of rfl (fun _ => ?_) (fun h => by simp at h; omega)
    refine ab_seq_k fun K6 h6 => ?_
    simp
    refine h6 _ _ _ ?_
    clear h6 K6
    simp
    refine fin_of 3 ?_
    simp [rs31, hv]
  · have hN := hJO.2.1
    have hpw := pow12 hN
    have hk := fun σ => keys77F (J := J) (f := f) (σ := σ) hN
    have hkl := keysTo_len (J := J) (i := 2 ^ J.length)
    have hmem : ∀ s ∈ keysTo J (2 ^ J.length), s < 2 ^ 12 := fun s hs => by
      have := (List.mem_filter.1 hs).1
      rw [List.mem_range] at this
      omega
    have hv : keysV J = .tup [.ss (lv (lexS (keysTo J (2 ^ J.length)))) (keysTo J (2 ^ J.length)).length ((keysTo J (2 ^ J.length)).length == 0), .i .i64 0] := by unfold keysV; rw [if_neg (by simp [hc])]
    have hls := fun f σ => lists76 (L := keysTo J (2 ^ J.length)) (f := f) (σ := σ) hmem (by omega)
    generalize keysTo J (2 ^ J.length) = L at *
    rw [ho]
    simp
    refine h2 _ _ _ ?_
    clear h2 K2
    refine ab_seq_k fun K3 h3 => ?_
    refine ab_seq_k fun K5 h5 => ?_
    simp
    refine h5 _ _ _ ?_
    clear h5 K5
    refine ab_cond_of rfl (fun h => by simp at h) (fun _ => ?_)
    simp
    refine h3 _ _ _ ?_
    clear h3 K3
    refine ab_seq_k fun K7 h7 => ?_
    simp
    refine callK_of (hk _) ?_
    simp
    refine callK_of (hls _ _) ?_
    simp
    refine h7 _ _ _ ?_
    simp
    refine fin_of 3 ?_
    simp [rs31, hv]
theorem keys32 {J : List Lg} {f : Bool} {σ : List O} (hJ : J.length ≤ 1000000) (hl : ∀ x ∈ J, x.2.1.length ≤ 1000000) : FSpec Tryz.prog 32 [jamV J f] σ (keysV J) σ := by
  refine FSpec.frame (σ := σ) ?_ (by simp) keysV_pure
  have h24 := fun σ => refCheck24 (f := f) (σ := σ) hJ (fun x hx => by have := hl x hx; omega)
  refine fn32.spec0 mixed noIt_ok ?_
  rw [ic32]
  refine ab_seq_k fun K1 h1 => ?_
  simp
  refine h1 _ _ _ ?_
  clear h1 K1
  refine ab_seq_k fun K2 h2 => ?_
  refine ab_seq_k fun K3 h3 => ?_
  simp
  refine callK_of (h24 _) ?_
  simp
  refine h3 _ _ _ ?_
  clear h3 K3
  by_cases hc : checkJ J = 0
  · have hJO := check_ok hl hc
    have hv : keysV J = .tup [.ss (lv (lexS (keysTo J (2 ^ J.length)))) (keysTo J (2 ^ J.length)).length ((keysTo J (2 ^ J.length)).length == 0), .i .i64 0] := by unfold keysV; rw [if_neg (by simp [hc])]
    refine ab_cond_of rfl (fun h => by simp [hc] at h) (fun _ => ?_)
    simp
    refine h2 _ _ _ ?_
    have hfr := fun σ => frees79 (f := f) (σ := σ) hJO (check_parts hc)
    have hle := fun f σ => least78 (J := J) (f := f) (σ := σ) hJO.2.1
    generalize keysTo J (2 ^ J.length) = L at *
    generalize rowF (2 ^ J.length) (goodI J) = G at *
    refine ab_seq_k fun K7 h7 => ?_
    simp
    refine callK_of (hfr _) ?_
    simp
    refine callK_of (hle _ _) ?_
    simp
    refine h7 _ _ _ ?_
    simp
    refine fin_of 3 ?_
    simp [rs32, hv]
  · have hv : keysV J = .tup [.ss [] 0 true, .i .i64 (checkJ J)] := by unfold keysV; rw [if_pos hc]
    refine ab_cond_of rfl (fun _ => ?_) (fun h => by simp [hc] at h)
    refine ab_seq_k fun K4 h4 => ?_
    simp
    refine callK_of (h24 _) ?_
    simp
    refine h4 _ _ _ ?_
    clear h4 K4
    simp
    refine fin_of 3 ?_
    simp [rs32, hv]
end Go.Ab
