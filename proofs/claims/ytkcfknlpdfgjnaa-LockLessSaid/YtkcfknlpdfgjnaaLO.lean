/- Enough. -/
import Derived.Test.YtkcfknlpdfgjnaaLN
set_option linter.unusedVariables false
set_option linter.unusedSimpArgs false
set_option maxHeartbeats 4000000
namespace Go.Ab
open Go Go.Proofs

theorem with45 {T : Tw} {ft : Bool} {room r : Int} : FSpec Try.prog 45 [towV T ft room, .i .i64 r] [] (towV T ft r) [] := by
  refine fn45.spec0 mixed noIt_ok ?_
  rw [ic45]
  refine ab_seq_k fun K1 h1 => ?_
  simp
  refine h1 _ _ _ ?_
  clear h1 K1
  refine ab_seq_k fun K2 h2 => ?_
  simp [get0_towC]
  refine h2 _ _ _ ?_
  clear h2 K2
  simp
  exact fin_of 1 (by simp [rs45, towC])

theorem check_room {T : Tw} {room r : Int} (h : checkTow T room = 0) (h0 : 0 ≤ r) (h7 : r ≤ 7) : checkTow T r = 0 := by
  have hf : fit 0 7 r = true := by simp [fit]; omega
  unfold checkTow at h ⊢
  split at h
  · cases h
  · rename_i h1
    rw [if_neg h1]
    split at h
    · cases h
    · rename_i h2
      rw [if_neg]
      rw [hf]
      simp only [Bool.or_eq_true, not_or] at h2 ⊢
      exact ⟨h2.1, by simp⟩

def roomTs (T : Tw) (i : Nat) : List Int := (List.range i).map fun (r : Nat) => bestT T r
@[simp] theorem roomTs_len {T i} : (roomTs T i).length = i := by simp [roomTs]
theorem roomTs_succ {T i} : roomTs T (i + 1) = roomTs T i ++ [bestT T i] := by simp [roomTs, List.range_succ]
theorem roomTs_get {T} {i j : Nat} (h : j < i) : (roomTs T i).getD j 0 = bestT T j := by simp [roomTs, List.getD_eq_getElem?_getD, h]
def enoughN (T : Tw) : Nat := leastTo (roomTs T 8) 8
theorem enough_spec {T : Tw} : (∀ j : Nat, j < 8 → bestT T (enoughN T : Nat) ≤ bestT T j) ∧ (∀ j : Nat, j < enoughN T → bestT T (enoughN T : Nat) < bestT T j) ∧ enoughN T < 8 := by
  obtain ⟨h1, h2, h3⟩ := leastTo_spec (l := roomTs T 8) (i := 8)
  have h8 : leastTo (roomTs T 8) 8 < 8 := by omega
  rw [roomTs_get h8] at h1 h2
  exact ⟨fun j hj => by have := h1 j hj; rwa [roomTs_get hj] at this, fun j hj => by have h := h2 j hj; rwa [roomTs_get (Nat.lt_trans hj h8)] at h, h8⟩
def enoughP (T : Tw) (room : Int) : Int × Int := if checkTow T room = 0 then ((enoughN T : Nat), 0) else (0, checkTow T room)

theorem refEnough {T : Tw} {ft : Bool} {room : Int} (hl : (T.length : Int) < 1000000000) : FSpec Try.prog 39 [towV T ft room] [] (pairV (enoughP T room)) [] := by
  refine fn39.spec0 mixed noIt_ok ?_
  rw [ic39]
  have hct := fun σ => FSpec.frame (σ := σ) (refTow (T := T) (ft := ft) (room := room) hl) (by simp) rfl
  refine ab_seq_k fun K1 h1 => ?_
  simp
  refine h1 _ _ _ ?_
  clear h1 K1
  refine ab_seq_k fun K2 h2 => ?_
  refine ab_seq_k fun K3 h3 => ?_
  simp [take_towC]
  refine callK_of (hct _) ?_
  simp [take_towC]
  refine h3 _ _ _ ?_
  clear h3 K3
  refine ab_cond_of rfl (fun hc => ?_) (fun hc => ?_)
  · have hne : ¬ checkTow T room = 0 := by simpa using hc
    refine ab_seq_k fun K4 h4 => ?_
    simp [take_towC]
    refine callK_of (hct _) ?_
    simp [take_towC]
    refine h4 _ _ _ ?_
    clear h4 K4
    simp
    exact fin_of 1 (by simp [rs39, enoughP, hne, pairV])
  have hct0 : checkTow T room = 0 := by simpa using hc
  simp
  refine h2 _ _ _ ?_
  clear h2 K2
  obtain ⟨n1, n7, tb, r0, r7⟩ := tow_len hct0
  have hb := fun (r : Int) (h0 : 0 ≤ r) (h7 : r ≤ 7) σ => FSpec.frame (σ := σ) (bestOf_ok (ft := ft) (check_room hct0 h0 h7)) (by simp) rfl
  have hw := fun (r : Int) σ => FSpec.frame (σ := σ) (with45 (T := T) (ft := ft) (room := room) (r := r)) (by simp) (by simp)
  obtain ⟨e1, e2, e3⟩ := enough_spec (T := T)
  refine ab_seq_k fun K4 h4 => ?_
  simp [take_towC]
  refine callK_of (hw 7 _) ?_
  simp [take_towC]
  refine callK_of (hb 7 (by omega) (by omega) _) ?_
  simp [take_towC]
  refine h4 _ _ _ ?_
  clear h4 K4
  have h7t : timeR T 7 (bestO T 7) = bestT T 7 := rfl
  rw [h7t]
  refine ab_seq_k fun K5 h5 => ?_
  simp
  refine h5 _ _ _ ?_
  clear h5 K5
  refine ab_seq_k fun K6 h6 => ?_
  refine ab_block_k fun K7 h7 => ?_
  refine ab_loop_k (fun m env σ => ∃ i : Nat, i + m = 7 ∧ (∀ j : Nat, j < i → bestT T 7 < bestT T j) ∧ env = [(1, .p 0 0 0), (4, .i .i64 (bestT T 7)), (5, .i .i64 i)] ∧ σ = [O.row 0 (towC T ft room)]) 7 ⟨0, by omega, by simp, by simp, rfl⟩ ?_
  rintro m env σ ⟨i, hi, hpre, rfl, rfl⟩ K8 h8
  rw [ic39_0]
  refine ab_seq_k fun K9 h9 => ?_
  refine ab_seq_k fun K10 h10 => ?_
  simp [take_towC]
  refine callK_of (hw i _) ?_
  simp
  refine callK_of (hb i (by omega) (by omega) _) ?_
  have hit : timeR T i (bestO T i) = bestT T i := rfl
  simp [hit]
  refine h10 _ _ _ ?_
  clear h10 K10
  refine ab_cond_of rfl (fun hc2 => ?_) (fun hc2 => ?_)
  · have hgt : bestT T 7 < bestT T i := by simpa using hc2
    have hi7 : i ≠ 7 := by intro h; rw [h] at hgt; exact absurd hgt (Int.lt_irrefl (bestT T 7))
    simp
    refine h9 _ _ _ ?_
    clear h9 K9
    refine ab_block_k fun K11 h11 => ?_
    simp [wrap64 (x := (i : Int) + 1) (by omega) (by omega)]
    refine h11 _ _ _ ?_
    refine h8 _ _ _ (again (m - 1) (by omega) ⟨i + 1, by omega, fun j hj => ?_, by simp, rfl⟩)
    by_cases hji : j = i
    · subst hji; exact hgt
    · exact hpre j (by omega)
  · have hgt : ¬ bestT T 7 < bestT T i := by simpa using hc2
    have hmin := bestT_room (T := T) (r := i) (r' := 7) tb (by omega) (by omega)
    have hen : enoughN T = i := by
      have a1 := e1 7 (by omega)
      have a3 := bestT_room (T := T) (r := (enoughN T : Nat)) (r' := 7) tb (by omega) (by omega)
      false_or_by_contra
      rename_i hne
      rcases Nat.lt_or_gt_of_ne hne with h | h
      · have := hpre _ h
        have a1' : bestT T ((enoughN T : Nat) : Int) ≤ bestT T 7 := a1
        omega
      · have := e2 i h
        omega
    simp
    refine h7 _ _ _ ?_
    refine h6 _ _ _ ?_
    refine ab_seq_k fun K12 h12 => ?_
    simp
    refine h12 _ _ _ ?_
    clear h12 K12
    simp
    exact fin_of 1 (by simp [rs39, enoughP, hct0, hen, pairV])

def enV (i : Nat) : V := if i = 0 then .ss [] 0 true else .s 3 (i - 1) 0 i 1
def enH (T : Tw) (i : Nat) : List O := if i = 0 then [] else [.row (i - 1) (ints (roomTs T i))]
theorem prgEnough {T : Tw} {ft : Bool} {room : Int} (hl : (T.length : Int) < 1000000000) : FSpec Try.prog 38 [towV T ft room] [] (pairV (enoughP T room)) [] := by
  refine fn38.spec0 mixed noIt_ok ?_
  rw [ic38]
  refine ab_seq_k fun K1 h1 => ?_
  simp
  refine h1 _ _ _ ?_
  clear h1 K1
  by_cases hct0 : checkTow T room = 0
  · obtain ⟨n1, n7, tb, r0, r7⟩ := tow_len hct0
    refine ab_seq_k fun K2 h2 => ?_
    simp [take_towC]
    refine callK_of (open_ok hl hct0) ?_
    simp [take_towC]
    refine h2 _ _ _ ?_
    clear h2 K2
    refine ab_seq_k fun K3 h3 => ?_
    refine ab_seq_k fun K4 h4 => ?_
    simp
    refine h4 _ _ _ ?_
    clear h4 K4
    refine ab_cond_of rfl (fun h => by cases h) (fun _ => ?_)
    simp
    refine h3 _ _ _ ?_
    clear h3 K3
    refine ab_seq_k fun K5 h5 => ?_
    simp
    refine h5 _ _ _ ?_
    clear h5 K5
    refine ab_seq_k fun K6 h6 => ?_
    refine ab_seq_k fun K7 h7 => ?_
    simp
    refine h7 _ _ _ ?_
    clear h7 K7
    refine ab_block_k fun K8 h8 => ?_
    refine ab_loop_k (fun m env σ => ∃ (i : Nat) (r : Int) (S H : List Int), i + m = 8 ∧ S.length = 7 ∧ H.length = 7 ∧ env = [(4, .p 2 0 0), (6, enV i), (16, .i .i64 i)] ∧ σ = [O.row 0 (towC T ft room), O.row 0 (towC T ft room), O.row 0 (canC T ft r S H)] ++ enH T i) 8 ⟨0, room, zer7, zer7, by omega, rfl, rfl, by simp [enV], by simp [enH]⟩ ?_
    rintro m env σ ⟨i, r, S, H, hi, hS, hH, rfl, rfl⟩ K9 h9
    rw [ic38_0]
    refine ab_seq_k fun K10 h10 => ?_
    simp
    refine h10 _ _ _ ?_
    clear h10 K10
    refine ab_seq_k fun K11 h11 => ?_
    refine ab_cond_of rfl (fun hc => ?_) (fun hc => ?_)
    · have hi8 : i < 8 := by simp at hc; omega
      have hcti := check_room (r := i) hct0 (by omega) (by omega)
      obtain ⟨b1, b2, b3, b4⟩ := bestO_spec (T := T) (room := i)
      obtain ⟨m1, m2, -⟩ := orders_mem b2
      simp
      refine h11 _ _ _ ?_
      clear h11 K11
      refine ab_seq_k fun K12 h12 => ?_
      refine ab_block_k fun K13 h13 => ?_
      refine ab_seq_k fun K14 h14 => ?_
      simp
      refine h14 _ _ _ ?_
      clear h14 K14
      refine ab_seq_k fun K15 h15 => ?_
      have hcl := canC_len (T := T) (ft := ft) (room := r) hS hH
      have hset : (canC T ft r S H).set 1 (.i .i64 i) = canC T ft i S H := rfl
      simp
      rw [hset]
      refine ⟨by omega, h15 _ _ _ ?_⟩
      clear h15 K15 hset hcl
      have hpu : ∀ o ∈ (O.row 0 (towC T ft room) :: O.row 0 (towC T ft room) :: O.row 0 (canC T ft i S H) :: enH T i), PureO o := by
        intro o ho
        simp only [List.mem_cons] at ho
        rcases ho with rfl | rfl | rfl | ho
        · exact pureO_row pure_towC
        · exact pureO_row pure_towC
        · exact pureO_row pure_canC
        · unfold enH at ho
          split at ho
          · cases ho
          · simp only [List.mem_singleton] at ho
            subst ho
            exact pureO_row pure_ints
      simp
      refine callK_of (best_ok (ft := ft) (S := S) (H := H) (id := 2) hcti hpu hS hH rfl) ?_
      obtain ⟨l1, l2⟩ := runR_len (T := T) (room := (i : Int)) (o := bestO T i)
      have hm1 : T.length = (bestO T i).length := m1.symm
      simp
      refine callK_of (run_ok (T := T) (ft := ft) (room := (i : Int)) (S := pad7 (runR T i (bestO T i)).secs) (H := pad7 (runR T i (bestO T i)).thrs) (o := bestO T i) (id := 2) (ver := 0) tb (by omega) (by omega) (pad7_len (by omega)) (pad7_len (by omega)) rfl (.inl ⟨false, by rw [hm1]⟩) (by intro a b c d h; cases h) (by omega) m2) ?_
      have hit : (runR T i (bestO T i)).last = bestT T i := rfl
      have hq : ∀ env' σ', get env' 4 = .p 2 0 0 → get env' 6 = enV (i + 1) → get env' 16 = .i .i64 i → σ' = (O.row 0 (towC T ft room) :: O.row 0 (towC T ft room) :: O.row 0 (canR T ft i (runR T i (bestO T i))) :: enH T (i + 1)) → K13 (some 0) env' σ' := by
        intro env' σ' w4 w6 w16 hσ
        subst hσ
        refine h13 _ _ _ ?_
        refine h12 _ _ _ ?_
        simp [w4, w6, w16, wrap64 (x := (i : Int) + 1) (by omega) (by omega)]
        exact h9 _ _ _ (again (m - 1) (by omega) ⟨i + 1, i, _, _, by omega, pad7_len (by omega), pad7_len (by omega), by simp, rfl⟩)
      simp [hit]
      cases i with
      | zero =>
        simp [enV, enH]
        exact hq _ _ rfl rfl rfl (by simp [enH, roomTs, ints])
      | succ i =>
        simp [enV, enH]
        refine ⟨by omega, hq _ _ rfl (by simp [enV]) (by simp) ?_⟩
        simp [enH, roomTs_succ (i := i + 1), ints]
    · have hi8 : i = 8 := by simp at hc; omega
      subst hi8
      simp
      refine h8 _ _ _ ?_
      refine h6 _ _ _ ?_
      refine ab_seq_k fun K20 h20 => ?_
      simp
      refine callK_of (σ' := O.row 0 (towC T ft room) :: O.row 0 (towC T ft room) :: O.row 0 (canC T ft r S H) :: enH T 8) (v := .i .i64 (enoughN T : Nat)) (FSpec.frozen 2 ?_ rfl) ?_
      · have hz : frz 2 0 (O.row 0 (towC T ft room) :: O.row 0 (towC T ft room) :: O.row 0 (canC T ft r S H) :: enH T 8) (enV 8) = sl (roomTs T 8) false := by
          have h := frz_ints (k := 0) (n := 0) (id := 3) (ver := 7) (σ := O.row 0 (towC T ft room) :: O.row 0 (towC T ft room) :: O.row 0 (canC T ft r S H) :: enH T 8) (l := roomTs T 8) rfl (Nat.zero_le _)
          rw [roomTs_len] at h
          exact h
        have hfn : frz 2 0 (O.row 0 (towC T ft room) :: O.row 0 (towC T ft room) :: O.row 0 (canC T ft r S H) :: enH T 8) (.f (.func 71) [] []) = .f (.func 71) [] [] := by simp [frz]
        simp only [List.map_cons, List.map_nil, hz, hfn]
        have := least70 (l := roomTs T 8) (f := false) (by rw [roomTs_len]; decide)
        rw [roomTs_len] at this
        exact this
      · simp
        refine h20 _ _ _ ?_
        simp
        exact fin_of 1 (by simp [rs38, enoughP, hct0, pairV])
  · refine ab_seq_k fun K2 h2 => ?_
    simp [take_towC]
    refine callK_of (open_no hl hct0) ?_
    simp [take_towC]
    refine h2 _ _ _ ?_
    clear h2 K2
    refine ab_seq_k fun K3 h3 => ?_
    refine ab_seq_k fun K4 h4 => ?_
    simp
    refine h4 _ _ _ ?_
    clear h4 K4
    refine ab_cond_of rfl (fun _ => ?_) (fun h => by simp [hct0] at h)
    refine ab_seq_k fun K5 h5 => ?_
    simp
    refine h5 _ _ _ ?_
    clear h5 K5
    simp
    exact fin_of 1 (by simp [rs38, enoughP, hct0, pairV])
end Go.Ab
