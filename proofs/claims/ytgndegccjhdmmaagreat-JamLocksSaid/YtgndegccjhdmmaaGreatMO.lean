/- The tight locks. -/
import Derived.Test.YtgndegccjhdmmaaGreatMN
set_option linter.unusedVariables false
set_option linter.unusedSimpArgs false
set_option maxHeartbeats 4000000
set_option maxRecDepth 100000
namespace Go.Ab
open Go Go.Proofs

theorem locks84 {J : List Lg} {f : Bool} {σ : List O} (hJ : JOK J) : FSpecQ Tryz.prog 84 [heapV J f] σ (fun v σ' => Gr σ.length 1 σ' v (locksTo J (2 ^ J.length)).length (us (locksTo J (2 ^ J.length)))) := by
  have hN := hJ.2.1
  have hh : (cellsOf (heapV J f)) = some [heapV J f] := rfl
  have hlk := fun σ s hs => isLock89 (J := J) (f := f) (s := s) (σ := σ) hJ hs
  have hat : ∀ σ, HeapAt J f (heapV J f) σ := fun σ => .inl ⟨_, _, rfl⟩
  have hpw := pow12 hN
  have hlb : ∀ s, s < 2 ^ J.length → s < 65536 := fun s h => by omega
  refine qf84.specQ mixed itT_ok ?_
  rw [q84]
  generalize heapV J f = H at *
  refine ab_seq_k fun K1 h1 => ?_
  simp [hh]
  refine h1 _ _ _ ?_
  clear h1 K1
  refine ab_seq_k fun K2 h2 => ?_
  simp
  refine h2 _ _ _ ?_
  clear h2 K2
  refine ab_seq_k fun K3 h3 => ?_
  refine ab_seq_k fun K4 h4 => ?_
  simp
  refine callK_of (sets91 hh) ?_
  simp
  refine h4 _ _ _ ?_
  clear h4 K4
  refine ab_block_k fun K5 h5 => ?_
  generalize hL0 : σ.length = L0 at *
  generalize hW : 2 ^ J.length = W at *
  refine ⟨W, XSet, SetAt J f (L0 + 1 + 1) H, sets_it hN hW, fun i σ2 => σ2[L0]? = some (.row 0 [H]) ∧ σ2[L0 + 1 + 1]? = some (.row 0 [H]) ∧ ∃ v, σ2[L0 + 1]? = some (.row 0 [v]) ∧ Gr (L0 + 3) 1 σ2 v (locksTo J i).length (us (locksTo J i)), fun i σ2 h => ⟨h.2.1, hat _⟩, ⟨?_, ?_, .ss [] 0 true, ?_, ?_⟩, ?_, ?_⟩
  · rw [List.getElem?_append_right (by omega), hL0, Nat.sub_self]; rfl
  · rw [List.getElem?_append_right (by omega), hL0, show L0 + 1 + 1 - L0 = 2 by omega]; rfl
  · rw [List.getElem?_append_right (by omega), hL0, show L0 + 1 - L0 = 1 by omega]; rfl
  · simpa [locksTo, us] using Gr.nil
  · rintro i x σ2 g hi ⟨rfl, rfl⟩ ⟨q0, q2, v, q1, hv⟩
    refine ⟨rfl, ?_⟩
    generalize hKR : roundK _ _ _ = KR
    rw [List.append_nil]
    simp
    rw [q84_0]
    have hi16 := hlb i hi
    obtain ⟨hq2, -⟩ := List.getElem?_eq_some_iff.1 q2
    have hc0 : (σ2 ++ [O.row 0 [V.i .u16 i]])[σ2.length]? = some (O.row 0 [V.i .u16 i]) := by simp
    replace q0 := app_get (g := [O.row 0 [V.i .u16 i]]) q0
    replace q1 := app_get (g := [O.row 0 [V.i .u16 i]]) q1
    replace q2 := app_get (g := [O.row 0 [V.i .u16 i]]) q2
    replace hv := hv.app (g := [O.row 0 [V.i .u16 i]])
    have hcl : L0 + 3 ≤ σ2.length := by omega
    have hdone : ∀ σ3 v, σ3[L0]? = some (.row 0 [H]) → σ3[L0 + 1 + 1]? = some (.row 0 [H]) → σ3[L0 + 1]? = some (.row 0 [v]) → Gr (L0 + 3) 1 σ3 v (locksTo J (i + 1)).length (us (locksTo J (i + 1))) → ∀ env, KR (some 0) env σ3 := by
      intro σ3 v a1 a2 a3 a4 env
      rw [← hKR]
      exact ⟨rfl, .inl ⟨a1, a2, v, a3, a4⟩⟩
    clear hKR hq2
    have hU : σ2.length < (σ2 ++ [O.row 0 [V.i .u16 i]]).length := by simp
    generalize σ2 ++ [O.row 0 [V.i .u16 i]] = U at *
    generalize σ2.length = c at *
    obtain ⟨hq0, q0'⟩ := List.getElem?_eq_some_iff.1 q0
    obtain ⟨hq1, q1'⟩ := List.getElem?_eq_some_iff.1 q1
    obtain ⟨hqc, qc'⟩ := List.getElem?_eq_some_iff.1 hc0
    have hks := locksTo_succ (J := J) (i := i)
    have hkl := locksTo_len (J := J) (i := i)
    have hlt : ∀ x ∈ locksTo J i, x < 65536 := fun x hx => by
      have := List.mem_range.1 (List.mem_filter.1 hx).1
      omega
    have h110 := contains110 (first := []) (fp := 111) (cap := [V.p c 0 0]) (p := fun x => decide (less x i = 0)) hv.slp (by omega) (fun x hx => part111 (hlt x hx) hi16 hc0)
    refine ab_block_k fun K16 h16 => ?_
    refine ab_seq_k fun K18 h18 => ?_
    have hK18 : ∀ env cc, get env 3 = .p (L0 + 1) 0 0 → get env 4 = .p c 0 0 → get env 20 = .b cc → cc = minLock J i → K18 (some 0) env U := by
      intro env cc w3 w4 w20 hcv
      refine h18 _ _ _ ?_
      clear h18
      cases cc with
      | false =>
        rw [← hcv, if_neg (by simp)] at hks
        refine ab_cond_of w20 (fun h => by cases h) (fun _ => ?_)
        simp
        refine h16 _ _ _ ?_
        exact hdone U v q0 q2 q1 (by rw [hks]; exact hv) _
      | true =>
        rw [← hcv, if_pos rfl] at hks
        refine ab_cond_of w20 (fun _ => ?_) (fun h => by cases h)
        simp [w3, w4, q1, q1', hc0, qc']
        refine appG hv (by omega) (by omega) (by omega) rfl ?_
        intro v' σ' hv' hgr
        have hbid : ∀ j, j < L0 + 3 → idOf v ≠ some j := fun j hj e => by have := (hv.id_ge e).1; omega
        have r0 := hgr.get (hbid L0 (by omega)) q0
        have r1 := hgr.get (hbid (L0 + 1) (by omega)) q1
        have r2 := hgr.get (hbid (L0 + 1 + 1) (by omega)) q2
        obtain ⟨hr1, r1'⟩ := List.getElem?_eq_some_iff.1 r1
        simp [w3, w4, r1, r1', hv'.one]
        refine h16 _ _ _ ?_
        refine hdone _ v' ?_ ?_ (List.getElem?_set_self hr1) ?_ _
        · rw [List.getElem?_set_ne (by omega)]; exact r0
        · rw [List.getElem?_set_ne (by omega)]; exact r2
        · have h1 := hv'.setlt (i := L0 + 1) (o := O.row 0 [v']) (by omega)
          rw [hks]
          simpa [us] using h1
    clear h18 hdone
    by_cases hi0 : i = 0
    · have hm : minLock J i = false := by simp [minLock, lockB, hi0]
      simp [hc0, qc', hi0]
      exact hK18 _ _ rfl rfl rfl hm.symm
    · cases hl : lockB J i with
      | false =>
        have hm : minLock J i = false := by simp [minLock, hl]
        simp [hc0, qc', hi0, q0, q0']
        refine callK_of (hlk _ _ hi) ?_
        simp [hl]
        exact hK18 _ _ rfl rfl rfl hm.symm
      | true =>
        rw [any_min hl] at h110
        simp [hc0, qc', hi0, q0, q0']
        refine callK_of (hlk _ _ hi) ?_
        simp [hl, q1, q1']
        refine callK_of h110 ?_
        simp
        exact hK18 _ _ rfl rfl rfl rfl
  · rintro σ2 ⟨q0, q2, v, q1, hv⟩
    refine h5 _ _ _ (h3 _ _ _ ?_)
    obtain ⟨hq1, q1'⟩ := List.getElem?_eq_some_iff.1 q1
    refine ab_seq_k fun K30 h30 => ?_
    simp [q1, q1']
    refine callR_of (tight113 hv.slp ?_ ?_ ?_) ?_
    · have := locksTo_len (J := J) (i := W); omega
    · intro s hs
      have := List.mem_range.1 (List.mem_filter.1 hs).1
      omega
    · intro i k x y hx hy h
      have he := locks_anti (List.mem_of_getElem? hx) (List.mem_of_getElem? hy) h
      subst he
      have hnd : (locksTo J W).Nodup := List.Nodup.sublist List.filter_sublist List.nodup_range
      exact (List.getElem?_inj (List.getElem?_eq_some_iff.1 hy).1 hnd).1 (hy.trans hx.symm)
    · intro v' σ' hv'
      simp
      refine h30 _ _ _ ?_
      simp
      refine fin_Q ?_
      simp [rs84]
      exact hv'.mono (by omega)
theorem locks84F {J : List Lg} {f : Bool} {σ : List O} (hJ : JOK J) : FSpec Tryz.prog 84 [heapV J f] σ (.ss (us (locksTo J (2 ^ J.length))) (locksTo J (2 ^ J.length)).length ((locksTo J (2 ^ J.length)).length == 0)) σ := by
  refine FSpec.frame (σ := σ) ?_ (by simp) (by simp)
  exact (locks84 hJ).freeze fun v σ' h => ⟨2, frz_G h (by simp)⟩
end Go.Ab
