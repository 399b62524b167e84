/- Fewest of the reference; Kind of both. -/
import Derived.Test.YtgndegccjhdmmaaGreatMG
set_option linter.unusedVariables false
set_option linter.unusedSimpArgs false
set_option maxHeartbeats 4000000
set_option maxRecDepth 100000
namespace Go.Ab
open Go Go.Proofs

theorem rfewest30 {J : List Lg} {f : Bool} {σ : List O} (hJ : J.length ≤ 1000000) (hl : ∀ x ∈ J, x.2.1.length ≤ 1000000) : FSpec Tryz.prog 30 [jamV J f] σ (fewV J) σ := by
  refine FSpec.frame (σ := σ) ?_ (by simp) fewV_pure
  have h24 := fun σ => refCheck24 (f := f) (σ := σ) hJ (fun x hx => by have := hl x hx; omega)
  refine fn30.spec0 mixed noIt_ok ?_
  rw [ic30]
  refine ab_seq_k fun K1 h1 => ?_
  simp
  refine h1 _ _ _ ?_
  clear h1 K1
  refine ab_seq_k fun K2 h2 => ?_
  refine ab_seq_k fun K3 h3 => ?_
  simp
  refine callK_of (h24 _) ?_
  simp
  refine h3 _ _ _ ?_
  clear h3 K3
  by_cases hc : checkJ J = 0
  · have hJO := check_ok hl hc
    have hN := hJO.2.1
    have hv : fewV J = .tup [listV (few0 J), .i .i64 0] := by unfold fewV; rw [if_neg (by simp [hc])]
    have h75 := fun σ => rfew75 (f := f) (σ := σ) hJ hl hc
    have hne := few_ne hN
    unfold few0 at hv
    generalize fewL J = L at *
    have hL0 : 0 < L.length := Nat.pos_of_ne_zero fun h => hne (List.length_eq_zero_iff.1 h)
    have hx : L[0]? = some (L.getD 0 0) := by rw [List.getD_eq_getElem?_getD, List.getElem?_eq_getElem hL0]; rfl
    generalize L.getD 0 0 = x at *
    have hlx := lv_get hx
    obtain ⟨hlx1, hlx'⟩ := List.getElem?_eq_some_iff.1 hlx
    refine ab_cond_of rfl (fun h => by simp [hc] at h) (fun _ => ?_)
    simp
    refine h2 _ _ _ ?_
    refine ab_seq_k fun K7 h7 => ?_
    simp
    refine callK_of (h75 _) ?_
    simp [hL0, hlx, hlx']
    refine h7 _ _ _ ?_
    simp
    refine fin_of 3 ?_
    simp [rs30, hv, listV]
  · have hv : fewV J = .tup [.ss [] 0 true, .i .i64 (checkJ J)] := by unfold fewV; rw [if_pos hc]
    refine ab_cond_of rfl (fun _ => ?_) (fun h => by simp [hc] at h)
    refine ab_seq_k fun K4 h4 => ?_
    simp
    refine callK_of (h24 _) ?_
    simp
    refine h4 _ _ _ ?_
    clear h4 K4
    simp
    refine fin_of 3 ?_
    simp [rs30, hv]

/-! ### Kind -/
def kindM (J : List Lg) (log : Nat) : Nat := (fewL J).countP fun s => s.testBit log
def kindV (J : List Lg) (log : Int) : Int × Int := if checkJ J ≠ 0 then (0, checkJ J) else if fit 0 (J.length - 1) log = false then (0, 2) else if kindM J log.toNat = (fewL J).length then (2, 0) else if kindM J log.toNat = 0 then (0, 0) else (1, 0)
theorem clone81 {L : List Nat} {n : Nat} {f : Bool} {σ : List O} (hn : n = L.length) (hne : L ≠ []) (hl : L.length ≤ 60000) : FSpec Tryz.prog 81 [.ss (us L) n f] σ (.s σ.length 0 0 n 1) (σ ++ [.row 0 (us L)]) := by
  subst hn
  have hn0 : L.length ≠ 0 := fun h => hne (List.length_eq_zero_iff.1 h)
  refine fn81.spec mixed noIt_ok ?_
  rw [ic81]
  refine ab_seq_k fun K1 h1 => ?_
  simp
  refine h1 _ _ _ ?_
  clear h1 K1
  refine ab_seq_k fun K2 h2 => ?_
  refine ab_seq_k fun K3 h3 => ?_
  simp [hne, snilK, hn0]
  refine h3 _ _ _ ?_
  refine ab_cond_of rfl (fun h => by simp [hne] at h) (fun _ => ?_)
  simp
  refine h2 _ _ _ ?_
  refine ab_seq_k fun K4 h4 => ?_
  simp [hne]
  refine ⟨by omega, h4 _ _ _ ?_⟩
  simp
  refine fin_all ?_
  simp [rs81]
theorem kind82 {c x log : Nat} {τ : List O} (hx : x < 65536) (hlog : log ≤ 16) (h1 : τ[c]? = some (.row 0 [.i .i64 log])) : FSpec Tryz.prog 82 [u16V x, .p c 0 0] τ (.b (!x.testBit log)) τ := by
  refine fn82.spec mixed noIt_ok ?_
  rw [ic82]
  obtain ⟨g1, g1'⟩ := List.getElem?_eq_some_iff.1 h1
  refine ab_seq_k fun K1 h1 => ?_
  simp
  refine h1 _ _ _ ?_
  clear h1 K1
  refine ab_seq_k fun K2 h2' => ?_
  simp [h1, g1']
  refine callK_of (has83 hx hlog) ?_
  simp
  refine h2' _ _ _ ?_
  simp
  refine fin_all ?_
  simp [rs82]
theorem kind33 {J : List Lg} {f : Bool} {log : Int} {σ : List O} (hJ : J.length ≤ 1000000) (hl : ∀ x ∈ J, x.2.1.length ≤ 1000000) : FSpec Tryz.prog 33 [jamV J f, .i .i64 log] σ (.tup [.i .i64 (kindV J log).1, .i .i64 (kindV J log).2]) σ := by
  refine FSpec.frame (σ := σ) ?_ (by simp) rfl
  have h62 := fun σ => open62 (f := f) (l := []) (fl := true) (σ := σ) hJ hl (by simp)
  refine FSpecQ.freeze (Q := fun v σ' => v = .tup [.i .i64 (kindV J log).1, .i .i64 (kindV J log).2]) ?_ (fun v σ' h => ⟨3, by rw [h]; exact frz_pure rfl⟩)
  refine qf33.specQ mixed noIt_ok ?_
  rw [q33]
  refine ab_seq_k fun K1 h1 => ?_
  simp
  refine h1 _ _ _ ?_
  clear h1 K1
  refine ab_seq_k fun K2 h2 => ?_
  simp
  refine callK_of (h62 _) ?_
  rcases open_nil (f := f) hl with ⟨hc, ho⟩ | ⟨hc, hJO, ho⟩
  · have hv : kindV J log = (0, checkJ J) := by unfold kindV; rw [if_pos hc]
    rw [ho]
    simp
    refine h2 _ _ _ ?_
    clear h2 K2
    refine ab_seq_k fun K3 h3 => ?_
    refine ab_block_k fun K4 h4 => ?_
    refine ab_seq_k fun K5 h5 => ?_
    simp
    refine h5 _ _ _ ?_
    clear h5 K5
    refine ab_cond_of rfl (fun _ => ?_) (fun h => by simp at h; omega)
    refine ab_seq_k fun K6 h6 => ?_
    simp
    refine h6 _ _ _ ?_
    clear h6 K6
    simp
    refine fin_Q ?_
    simp [rs33, hv]
  · have hN := hJO.2.1
    have hN1 := hJO.1
    have hv : kindV J log = if fit 0 (J.length - 1) log = false then ((0 : Int), (2 : Int)) else if kindM J log.toNat = (fewL J).length then ((2 : Int), (0 : Int)) else if kindM J log.toNat = 0 then ((0 : Int), (0 : Int)) else ((1 : Int), (0 : Int)) := by unfold kindV; rw [if_neg (by simp [hc])]
    have h74 := fun σ => few74 (J := J) (f := f) (σ := σ) hN
    have hne := few_ne hN
    have hlt := few_lt hN
    have hfl := few_len hN
    unfold kindM at hv
    rw [ho]
    generalize fewL J = L at *
    have hn0 : L.length ≠ 0 := fun h => hne (List.length_eq_zero_iff.1 h)
    have hh : (cellsOf (heapV J f)) = some [heapV J f] := rfl
    generalize heapV J f = H at *
    simp
    refine h2 _ _ _ ?_
    clear h2 K2
    refine ab_seq_k fun K3 h3 => ?_
    refine ab_block_k fun K4 h4 => ?_
    refine ab_seq_k fun K5 h5 => ?_
    simp
    refine h5 _ _ _ ?_
    clear h5 K5
    refine ab_cond_of rfl (fun h => by simp at h) (fun _ => ?_)
    refine ab_seq_k fun K6 h6 => ?_
    simp [wrap64 (x := (J.length : Int) - 1) (by omega) (by omega)]
    refine callK_of within0 ?_
    simp
    refine h6 _ _ _ ?_
    clear h6 K6
    cases hf : fit 0 (J.length - 1) log with
    | false =>
      rw [hf, if_pos rfl] at hv
      refine ab_cond_of rfl (fun _ => ?_) (fun h => by cases h)
      refine ab_seq_k fun K7 h7 => ?_
      simp
      refine h7 _ _ _ ?_
      clear h7 K7
      simp
      refine fin_Q ?_
      simp [rs33, hv]
    | true =>
      rw [hf, if_neg (by simp)] at hv
      refine ab_cond_of rfl (fun h => by cases h) (fun _ => ?_)
      simp
      refine h4 _ _ _ (h3 _ _ _ ?_)
      clear h3 h4
      simp only [fit, Bool.and_eq_true, decide_eq_true_eq] at hf
      obtain ⟨ln, rfl⟩ : ∃ ln : Nat, log = ln := ⟨log.toNat, by omega⟩
      rw [Int.toNat_natCast] at hv
      refine ab_seq_k fun K8 h8 => ?_
      simp
      refine callK_of (h74 _) ?_
      simp
      refine h8 _ _ _ ?_
      clear h8 K8
      refine ab_seq_k fun K9 h9 => ?_
      simp
      refine callK_of (clone81 rfl hne (by omega)) ?_
      simp
      have hgr : Gr 2 1 [O.row 0 [slJ J f], O.row 0 [V.i .i64 ln], O.row 0 (us L)] (.s 2 0 0 L.length 1) L.length (us L) := ⟨by simp, .inr ⟨hn0, 2, 0, by omega, rfl, rfl⟩⟩
      refine callR_of (delete80 (first := []) (cap := [.p 1 0 0]) (p := fun s => !s.testBit ln) hgr hne (by omega) ?_) ?_
      · intro x hx τ t1 t2
        have := hlt x hx
        refine kind82 (by omega) (by omega) ?_
        rw [t1 1 (by simp [idOf])]
        rfl
      · rintro v' σ5 h5
        simp only [Bool.not_not] at h5
        have hcnt : L.countP (fun s => s.testBit ln) = (L.filter fun s => s.testBit ln).length := List.countP_eq_length_filter
        rw [hcnt] at hv
        generalize L.filter (fun s => s.testBit ln) = M at *
        simp
        refine h9 _ _ _ ?_
        clear h9 K9
        refine ab_seq_k fun K10 h10 => ?_
        refine ab_seq_k fun K11 h11 => ?_
        simp
        refine h5.slp.len ?_
        simp
        refine h11 _ _ _ ?_
        clear h11 K11
        refine ab_block_k fun K12 h12 => ?_
        refine ab_seq_k fun K13 h13 => ?_
        simp
        refine h13 _ _ _ ?_
        clear h13 K13
        by_cases hm0 : M = []
        · have hm1 : M.length = 0 := by rw [hm0]; rfl
          rw [if_neg (by omega), if_pos hm1] at hv
          refine ab_cond_of rfl (fun _ => ?_) (fun h => by simp [hm0] at h)
          refine ab_seq_k fun K14 h14 => ?_
          simp
          refine h14 _ _ _ ?_
          clear h14 K14
          simp
          refine fin_Q ?_
          simp [rs33, hv]
        · have hm1 : M.length ≠ 0 := fun h => hm0 (List.length_eq_zero_iff.1 h)
          refine ab_cond_of rfl (fun h => by simp [hm0] at h) (fun _ => ?_)
          refine ab_seq_k fun K13 h13 => ?_
          simp
          refine h13 _ _ _ ?_
          by_cases hml : M.length = L.length
          · rw [if_pos hml] at hv
            refine ab_cond_of rfl (fun _ => ?_) (fun h => by simp [hml] at h)
            refine ab_seq_k fun K14 h14 => ?_
            simp
            refine h14 _ _ _ ?_
            clear h14 K14
            simp
            refine fin_Q ?_
            simp [rs33, hv]
          · rw [if_neg hml, if_neg hm1] at hv
            refine ab_cond_of rfl (fun h => by simp at h; omega) (fun _ => ?_)
            simp
            refine h12 _ _ _ (h10 _ _ _ ?_)
            refine ab_seq_k fun K14 h14 => ?_
            simp
            refine h14 _ _ _ ?_
            clear h14 K14
            simp
            refine fin_Q ?_
            simp [rs33, hv]
theorem rkind34 {J : List Lg} {f : Bool} {log : Int} {σ : List O} (hJ : J.length ≤ 1000000) (hl : ∀ x ∈ J, x.2.1.length ≤ 1000000) : FSpec Tryz.prog 34 [jamV J f, .i .i64 log] σ (.tup [.i .i64 (kindV J log).1, .i .i64 (kindV J log).2]) σ := by
  refine FSpec.frame (σ := σ) ?_ (by simp) rfl
  have h24 := fun σ => refCheck24 (f := f) (σ := σ) hJ (fun x hx => by have := hl x hx; omega)
  refine fn34.spec0 mixed noIt_ok ?_
  rw [ic34]
  refine ab_seq_k fun K1 h1 => ?_
  simp
  refine h1 _ _ _ ?_
  clear h1 K1
  refine ab_seq_k fun K2 h2 => ?_
  refine ab_seq_k fun K3 h3 => ?_
  simp
  refine callK_of (h24 _) ?_
  simp
  refine h3 _ _ _ ?_
  clear h3 K3
  by_cases hc : checkJ J = 0
  · have hJO := check_ok hl hc
    have hN := hJO.2.1
    have hN1 := hJO.1
    have hv : kindV J log = if fit 0 (J.length - 1) log = false then ((0 : Int), (2 : Int)) else if kindM J log.toNat = (fewL J).length then ((2 : Int), (0 : Int)) else if kindM J log.toNat = 0 then ((0 : Int), (0 : Int)) else ((1 : Int), (0 : Int)) := by unfold kindV; rw [if_neg (by simp [hc])]
    have h75 := fun σ => rfew75 (f := f) (σ := σ) hJ hl hc
    have hne := few_ne hN
    have hlt := few_lt hN
    have hfl := few_len hN
    unfold kindM at hv
    generalize fewL J = L at *
    have hn0 : L.length ≠ 0 := fun h => hne (List.length_eq_zero_iff.1 h)
    refine ab_cond_of rfl (fun h => by simp [hc] at h) (fun _ => ?_)
    simp
    refine h2 _ _ _ ?_
    clear h2 K2
    refine ab_seq_k fun K5 h5 => ?_
    refine ab_seq_k fun K6 h6 => ?_
    have hK6 : ∀ env, get env 1 = .i .i64 log → get env 2 = .p 0 0 0 → get env 22 = .b (!fit 0 (J.length - 1) log) → K6 (some 0) env [.row 0 [slJ J f]] := by
      intro env w1 w2 w22
      refine h6 _ _ _ ?_
      clear h6 K6
      cases hf : fit 0 (J.length - 1) log with
      | false =>
        rw [hf, if_pos rfl] at hv
        rw [hf] at w22
        refine ab_cond_of w22 (fun _ => ?_) (fun h => by cases h)
        refine ab_seq_k fun K7 h7 => ?_
        simp
        refine h7 _ _ _ ?_
        clear h7 K7
        simp
        refine fin_of 3 ?_
        simp [rs34, hv]
      | true =>
        rw [hf, if_neg (by simp)] at hv
        rw [hf] at w22
        refine ab_cond_of w22 (fun h => by cases h) (fun _ => ?_)
        simp only [fit, Bool.and_eq_true, decide_eq_true_eq] at hf
        obtain ⟨ln, rfl⟩ : ∃ ln : Nat, log = ln := ⟨log.toNat, by omega⟩
        rw [Int.toNat_natCast] at hv
        have hln : ln < 12 := by omega
        simp [w1, w2]
        refine h5 _ _ _ ?_
        clear h5 K5
        refine ab_seq_k fun K8 h8 => ?_
        simp [w1, w2]
        refine callK_of (h75 _) ?_
        simp [w1, w2]
        refine h8 _ _ _ ?_
        clear h8 K8
        refine ab_seq_k fun K9 h9 => ?_
        simp
        refine h9 _ _ _ ?_
        clear h9 K9
        refine ab_seq_k fun K10 h10 => ?_
        refine ab_seq_k fun K11 h11 => ?_
        simp
        refine h11 _ _ _ ?_
        clear h11 K11
        refine ab_block_k fun K12 h12 => ?_
        refine ab_loop_k (fun m env σ => ∃ i : Nat, i + m = L.length ∧ env = [(1, .i .i64 ln), (6, .ss (lv L) L.length false), (7, .i .i64 ((L.take i).countP fun s => s.testBit ln)), (8, .i .i64 i)]) L.length ⟨0, by omega, by simp⟩ ?_
        clear w1 w2 w22 env
        rintro m env σ ⟨i, hi, rfl⟩ K13 h13
        rw [ic34_0]
        refine ab_seq_k fun K14 h14 => ?_
        refine ab_seq_k fun K15 h15 => ?_
        simp
        refine h15 _ _ _ ?_
        clear h15 K15
        refine ab_cond_of rfl (fun hc1 => ?_) (fun hc1 => ?_)
        · have hil : i < L.length := by simpa using hc1
          have hx : L[i]? = some L[i] := List.getElem?_eq_getElem hil
          have hxl := hlt _ (List.getElem_mem hil)
          have hct : (L.take (i + 1)).countP (fun s => s.testBit ln) = (L.take i).countP (fun s => s.testBit ln) + if L[i].testBit ln = true then 1 else 0 := by
            rw [List.take_add_one, hx, List.countP_append]
            simp [List.countP_cons]
          have hcl := List.countP_le_length (p := fun s => s.testBit ln) (l := L.take i)
          rw [List.length_take] at hcl
          generalize L[i] = x at *
          have hlx := lv_get hx
          obtain ⟨hlx1, hlx'⟩ := List.getElem?_eq_some_iff.1 hlx
          have hhas : decide ((ln : Int) ∈ bl x 12) = x.testBit ln := by
            rw [Bool.eq_iff_iff, decide_eq_true_eq, bl_mem]
            constructor
            · rintro ⟨j, h1, h2, h3⟩
              have : j = ln := by omega
              rw [← this]; exact h3
            · intro h; exact ⟨ln, hln, rfl, h⟩
          have hbl := bl_len (s := x) (k := 12)
          simp
          refine h14 _ _ _ ?_
          clear h14 K14
          refine ab_seq_k fun K16 h16 => ?_
          refine ab_block_k fun K17 h17 => ?_
          refine ab_seq_k fun K18 h18 => ?_
          simp [hil, hlx, hlx']
          refine callK_of (has53 (by omega)) ?_
          rw [hhas]
          simp
          refine h18 _ _ _ ?_
          generalize (L.take i).countP (fun s => s.testBit ln) = q at *
          cases hb : x.testBit ln with
          | true =>
            rw [hb, if_pos rfl] at hct
            refine ab_cond_of rfl (fun _ => ?_) (fun h => by cases h)
            simp [wrap64 (x := (q : Int) + 1) (by omega) (by omega)]
            refine h17 _ _ _ (h16 _ _ _ ?_)
            simp [wrap64 (x := (i : Int) + 1) (by omega) (by omega)]
            exact h13 _ _ _ (again (m - 1) (by omega) ⟨i + 1, by omega, by simp [hct]⟩)
          | false =>
            rw [hb, if_neg (by simp), Nat.add_zero] at hct
            refine ab_cond_of rfl (fun h => by cases h) (fun _ => ?_)
            simp
            refine h17 _ _ _ (h16 _ _ _ ?_)
            simp [wrap64 (x := (i : Int) + 1) (by omega) (by omega)]
            exact h13 _ _ _ (again (m - 1) (by omega) ⟨i + 1, by omega, by simp [hct]⟩)
        · have hil : i = L.length := by simp at hc1; omega
          subst hil
          rw [List.take_length]
          simp
          refine h12 _ _ _ (h10 _ _ _ ?_)
          clear h10 h12 h13 h14
          generalize L.countP (fun s => s.testBit ln) = q at *
          refine ab_seq_k fun K20 h20 => ?_
          refine ab_seq_k fun K21 h21 => ?_
          simp
          refine h21 _ _ _ ?_
          clear h21 K21
          by_cases hq : q = L.length
          · rw [if_pos hq] at hv
            refine ab_cond_of rfl (fun _ => ?_) (fun h => by simp [hq] at h)
            refine ab_seq_k fun K22 h22 => ?_
            simp
            refine h22 _ _ _ ?_
            clear h22 K22
            simp
            refine fin_of 3 ?_
            simp [rs34, hv]
          · rw [if_neg hq] at hv
            refine ab_cond_of rfl (fun h => by simp at h; omega) (fun _ => ?_)
            simp
            refine h20 _ _ _ ?_
            by_cases hq0 : q = 0
            · rw [if_pos hq0] at hv
              subst hq0
              have hm : min (0 : Int) 1 = 0 := by omega
              refine ab_seq_k fun K23 h23 => ?_
              simp [hm]
              refine h23 _ _ _ ?_
              simp
              refine fin_of 3 ?_
              simp [rs34, hv, hm]
            · rw [if_neg hq0] at hv
              have hm : min (q : Int) 1 = 1 := by omega
              refine ab_seq_k fun K23 h23 => ?_
              simp [hm]
              refine h23 _ _ _ ?_
              simp
              refine fin_of 3 ?_
              simp [rs34, hv, hm]
    clear h6
    by_cases c1 : log < 0
    · have hf : fit 0 (J.length - 1) log = false := by simp [fit]; omega
      rw [hf] at hK6
      simp [c1]
      exact hK6 _ rfl rfl rfl
    · by_cases c2 : (J.length : Int) ≤ log
      · have hf : fit 0 (J.length - 1) log = false := by simp [fit]; omega
        rw [hf] at hK6
        simp [c1, c2]
        exact hK6 _ rfl rfl rfl
      · have hf : fit 0 (J.length - 1) log = true := by simp [fit]; omega
        rw [hf] at hK6
        simp [c1, c2]
        exact hK6 _ rfl rfl rfl
  · have hv : kindV J log = (0, checkJ J) := by unfold kindV; rw [if_pos hc]
    refine ab_cond_of rfl (fun _ => ?_) (fun h => by simp [hc] at h)
    refine ab_seq_k fun K4 h4 => ?_
    simp
    refine callK_of (h24 _) ?_
    simp
    refine h4 _ _ _ ?_
    clear h4 K4
    simp
    refine fin_of 3 ?_
    simp [rs34, hv]
end Go.Ab
