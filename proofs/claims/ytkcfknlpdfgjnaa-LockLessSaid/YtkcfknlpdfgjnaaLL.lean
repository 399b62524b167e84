/- First, BestOf, Best, Order. -/
import Derived.Test.YtkcfknlpdfgjnaaLK
set_option linter.unusedVariables false
set_option linter.unusedSimpArgs false
set_option maxHeartbeats 4000000
namespace Go.Ab
open Go Go.Proofs

theorem first_ok {T : Tw} {ft : Bool} {room : Int} (h : checkTow T room = 0) : FSpec Try.prog 58 [towV T ft room] [] (sl (bestO T room) false) [] := by
  obtain ⟨n1, n7, tb, r0, r7⟩ := tow_len h
  obtain ⟨b1, b2, b3, b4⟩ := bestO_spec (T := T) (room := room)
  have hmem := fun p (hp : p ∈ ordersL T.length) => orders_mem hp
  have htm := fun p (hp : p ∈ ordersL T.length) σ => FSpec.frame (σ := σ) (timeOf_ok (ft := ft) (fo := false) (room := room) (o := p) tb r0 r7 (by have := (hmem p hp).1; omega) (hmem p hp).2.1) (by simp) rfl
  have hord := fun σ => FSpec.frame (σ := σ) (orders60 n1 n7) (by simp) (by simp [pureL_sl])
  obtain ⟨L', hL'⟩ := orders_head (n := T.length)
  have h0mem : upTo T.length ∈ ordersL T.length := by rw [hL']; simp
  have hget0 : (ordersL T.length)[0]? = some (upTo T.length) := by rw [hL']; rfl
  have hlen0 : 0 < (ordersL T.length).length := by rw [hL']; simp
  generalize hLL : ordersL T.length = L at *
  refine fn58.spec0 mixed noIt_ok ?_
  rw [ic58]
  refine ab_seq_k fun K1 h1 => ?_
  simp
  refine h1 _ _ _ ?_
  clear h1 K1
  refine ab_seq_k fun K2 h2 => ?_
  simp [get0_towC]
  refine callK_of (hord _) ?_
  simp [get0_towC]
  refine h2 _ _ _ ?_
  clear h2 K2
  refine ab_seq_k fun K3 h3 => ?_
  simp
  refine h3 _ _ _ ?_
  clear h3 K3
  have hd : ∀ σ, FSpec Try.prog 43 [towV T ft room, sl (upTo T.length) false] σ (.i .i64 (timeR T room (upTo T.length))) σ := fun σ => htm _ h0mem σ
  obtain ⟨hlp, e0⟩ := List.getElem?_eq_some_iff.1 hget0
  refine ab_seq_k fun K4 h4 => ?_
  simp [take_towC, hget0, hlen0, e0]
  refine callK_of (hd _) ?_
  simp [take_towC, hget0, hlen0, e0]
  refine h4 _ _ _ ?_
  clear h4 K4
  refine ab_seq_k fun K5 h5 => ?_
  refine ab_seq_k fun K6 h6 => ?_
  simp
  refine h6 _ _ _ ?_
  clear h6 K6
  refine ab_block_k fun K7 h7 => ?_
  have hLlen : (L.length : Int) < 1000000000 := by
    rw [← hLL, ← levels_orders]
    have h1 := levels_len n7 (j := T.length)
    have h2 : 7 ^ T.length ≤ 7 ^ 7 := Nat.pow_le_pow_right (by omega) n7
    omega
  refine ab_loop_k (fun m env σ => ∃ (i j : Nat) (q : List Int), i + m = L.length ∧ L[j]? = some q ∧ bestF (timeR T room) (L.take i) = some q ∧ env = [(1, .p 0 0 0), (3, .ss (L.map fun p => sl p false) L.length false), (4, .i .i64 j), (5, .i .i64 (timeR T room q)), (6, .i .i64 i)] ∧ σ = [O.row 0 (towC T ft room)]) (L.length - 1)
    ⟨1, 0, upTo T.length, by omega, hget0, by rw [hL']; rfl, by simp, rfl⟩ ?_
  rintro m env σ ⟨i, j, q, hi, hjq, hbq, rfl, rfl⟩ K8 h8
  rw [ic58_0]
  refine ab_seq_k fun K9 h9 => ?_
  refine ab_seq_k fun K10 h10 => ?_
  simp
  refine h10 _ _ _ ?_
  clear h10 K10
  refine ab_cond_of rfl (fun hc => ?_) (fun hc => ?_)
  · have hil : i < L.length := by simpa using hc
    have hgi : L[i]? = some L[i] := List.getElem?_eq_getElem hil
    have hmi : L[i] ∈ L := List.getElem_mem hil
    generalize hpi : L[i] = p at hgi hmi
    have hstep := bestF_take (tm := timeR T room) hgi
    rw [hbq] at hstep
    have hd2 : ∀ σ, FSpec Try.prog 43 [towV T ft room, sl p false] σ (.i .i64 (timeR T room p)) σ := fun σ => htm _ hmi σ
    simp
    refine h9 _ _ _ ?_
    clear h9 K9
    refine ab_seq_k fun K11 h11 => ?_
    refine ab_block_k fun K12 h12 => ?_
    refine ab_seq_k fun K13 h13 => ?_
    simp [take_towC, hgi, hil, hpi]
    refine callK_of (hd2 _) ?_
    simp [take_towC, hgi, hil, hpi]
    refine h13 _ _ _ ?_
    clear h13 K13
    refine ab_seq_k fun K14 h14 => ?_
    simp
    refine h14 _ _ _ ?_
    clear h14 K14
    refine ab_cond_of rfl (fun hc2 => ?_) (fun hc2 => ?_)
    · have hlt2 : timeR T room p < timeR T room q := by simpa using hc2
      have hb : bestF (timeR T room) (L.take (i + 1)) = some p := by rw [hstep]; simp [better, hlt2]
      simp
      refine h12 _ _ _ ?_
      refine h11 _ _ _ ?_
      simp [wrap64 (x := (i : Int) + 1) (by omega) (by omega)]
      exact h8 _ _ _ (again (m - 1) (by omega) ⟨i + 1, i, p, by omega, hgi, hb, by simp, rfl⟩)
    · have hlt2 : ¬ timeR T room p < timeR T room q := by simpa using hc2
      have hb : bestF (timeR T room) (L.take (i + 1)) = some q := by rw [hstep]; simp [better, hlt2]
      simp
      refine h12 _ _ _ ?_
      refine h11 _ _ _ ?_
      simp [wrap64 (x := (i : Int) + 1) (by omega) (by omega)]
      exact h8 _ _ _ (again (m - 1) (by omega) ⟨i + 1, j, q, by omega, hjq, hb, by simp, rfl⟩)
  · have hil : i = L.length := by simp at hc; omega
    subst hil
    rw [List.take_length, b1] at hbq
    cases hbq
    obtain ⟨hjl, ej⟩ := List.getElem?_eq_some_iff.1 hjq
    simp
    refine h7 _ _ _ ?_
    refine h5 _ _ _ ?_
    refine ab_seq_k fun K15 h15 => ?_
    simp [hjq, hjl, ej]
    refine h15 _ _ _ ?_
    clear h15 K15
    simp
    exact fin_of 1 (by simp [rs58])

theorem bestOf_ok {T : Tw} {ft : Bool} {room : Int} (h : checkTow T room = 0) : FSpec Try.prog 57 [towV T ft room] [] (.i .i64 (timeR T room (bestO T room))) [] := by
  obtain ⟨n1, n7, tb, r0, r7⟩ := tow_len h
  obtain ⟨b1, b2, b3, b4⟩ := bestO_spec (T := T) (room := room)
  obtain ⟨m1, m2, -⟩ := orders_mem b2
  have hf := fun σ => FSpec.frame (σ := σ) (first_ok (ft := ft) h) (by simp) (by simp)
  have htm : ∀ σ, FSpec Try.prog 43 [towV T ft room, sl (bestO T room) false] σ (.i .i64 (timeR T room (bestO T room))) σ := fun σ => FSpec.frame (timeOf_ok (ft := ft) (fo := false) (room := room) (o := bestO T room) tb r0 r7 (by omega) m2) (by simp) rfl
  refine fn57.spec0 mixed noIt_ok ?_
  rw [ic57]
  refine ab_seq_k fun K1 h1 => ?_
  simp
  refine h1 _ _ _ ?_
  clear h1 K1
  refine ab_seq_k fun K2 h2 => ?_
  simp [take_towC]
  refine callK_of (hf _) ?_
  simp [take_towC]
  refine callK_of (htm _) ?_
  simp [take_towC]
  refine h2 _ _ _ ?_
  clear h2 K2
  simp
  exact fin_of 1 (by simp [rs57])

/-- Best, of both. -/
def bestP (T : Tw) (room : Int) : Int × Int := if checkTow T room = 0 then (timeR T room (bestO T room), 0) else (0, checkTow T room)
theorem refBest {T : Tw} {ft : Bool} {room : Int} (hl : (T.length : Int) < 1000000000) : FSpec Try.prog 26 [towV T ft room] [] (pairV (bestP T room)) [] := by
  refine fn26.spec0 mixed noIt_ok ?_
  rw [ic26]
  have hct := fun σ => FSpec.frame (σ := σ) (refTow (T := T) (ft := ft) (room := room) hl) (by simp) rfl
  refine ab_seq_k fun K1 h1 => ?_
  simp
  refine h1 _ _ _ ?_
  clear h1 K1
  refine ab_seq_k fun K2 h2 => ?_
  refine ab_seq_k fun K3 h3 => ?_
  simp [take_towC]
  refine callK_of (hct _) ?_
  simp [take_towC]
  refine h3 _ _ _ ?_
  clear h3 K3
  refine ab_cond_of rfl (fun hc => ?_) (fun hc => ?_)
  · have hne : ¬ checkTow T room = 0 := by simpa using hc
    refine ab_seq_k fun K4 h4 => ?_
    simp [take_towC]
    refine callK_of (hct _) ?_
    simp [take_towC]
    refine h4 _ _ _ ?_
    clear h4 K4
    simp
    exact fin_of 1 (by simp [rs26, bestP, hne, pairV])
  have hct0 : checkTow T room = 0 := by simpa using hc
  have hb := fun σ => FSpec.frame (σ := σ) (bestOf_ok (ft := ft) hct0) (by simp) rfl
  simp
  refine h2 _ _ _ ?_
  clear h2 K2
  refine ab_seq_k fun K4 h4 => ?_
  simp [take_towC]
  refine callK_of (hb _) ?_
  simp [take_towC]
  refine h4 _ _ _ ?_
  clear h4 K4
  simp
  exact fin_of 1 (by simp [rs26, bestP, hct0, pairV])
theorem prgBest {T : Tw} {ft : Bool} {room : Int} (hl : (T.length : Int) < 1000000000) : FSpec Try.prog 25 [towV T ft room] [] (pairV (bestP T room)) [] := by
  refine fn25.spec0 mixed noIt_ok ?_
  rw [ic25]
  refine ab_seq_k fun K1 h1 => ?_
  simp
  refine h1 _ _ _ ?_
  clear h1 K1
  by_cases hct0 : checkTow T room = 0
  · obtain ⟨n1, n7, tb, r0, r7⟩ := tow_len hct0
    obtain ⟨b1, b2, b3, b4⟩ := bestO_spec (T := T) (room := room)
    obtain ⟨m1, m2, -⟩ := orders_mem b2
    refine ab_seq_k fun K2 h2 => ?_
    simp [take_towC]
    refine callK_of (open_ok hl hct0) ?_
    simp [take_towC]
    refine h2 _ _ _ ?_
    clear h2 K2
    refine ab_seq_k fun K3 h3 => ?_
    refine ab_seq_k fun K4 h4 => ?_
    simp
    refine h4 _ _ _ ?_
    clear h4 K4
    refine ab_cond_of rfl (fun h => by cases h) (fun _ => ?_)
    simp
    refine h3 _ _ _ ?_
    clear h3 K3
    refine ab_seq_k fun K5 h5 => ?_
    simp
    refine callK_of (best_ok (ft := ft) (S := zer7) (H := zer7) (id := 2) hct0 (by intro o ho; simp at ho; rcases ho with rfl | rfl | rfl <;> exact pureO_row (by first | exact pure_towC | exact pure_canC)) rfl rfl rfl) ?_
    obtain ⟨l1, l2⟩ := runR_len (T := T) (room := room) (o := bestO T room)
    have hm1 : T.length = (bestO T room).length := m1.symm
    simp
    refine callK_of (run_ok (T := T) (ft := ft) (room := room) (S := pad7 (runR T room (bestO T room)).secs) (H := pad7 (runR T room (bestO T room)).thrs) (o := bestO T room) (id := 2) (ver := 0) tb r0 r7 (pad7_len (by omega)) (pad7_len (by omega)) rfl (.inl ⟨false, by rw [hm1]⟩) (by intro a b c d h; cases h) (by omega) m2) ?_
    simp
    refine h5 _ _ _ ?_
    simp
    exact fin_of 1 (by simp [rs25, bestP, hct0, pairV, timeR])
  · refine ab_seq_k fun K2 h2 => ?_
    simp [take_towC]
    refine callK_of (open_no hl hct0) ?_
    simp [take_towC]
    refine h2 _ _ _ ?_
    clear h2 K2
    refine ab_seq_k fun K3 h3 => ?_
    refine ab_seq_k fun K4 h4 => ?_
    simp
    refine h4 _ _ _ ?_
    clear h4 K4
    refine ab_cond_of rfl (fun _ => ?_) (fun h => by simp [hct0] at h)
    refine ab_seq_k fun K5 h5 => ?_
    simp
    refine h5 _ _ _ ?_
    clear h5 K5
    simp
    exact fin_of 1 (by simp [rs25, bestP, hct0, pairV])

def orderP (T : Tw) (room : Int) : V := if checkTow T room = 0 then .tup [sl (bestO T room) false, .i .i64 0] else .tup [.ss [] 0 true, .i .i64 (checkTow T room)]
theorem refOrder {T : Tw} {ft : Bool} {room : Int} (hl : (T.length : Int) < 1000000000) : FSpec Try.prog 28 [towV T ft room] [] (orderP T room) [] := by
  refine fn28.spec0 mixed noIt_ok ?_
  rw [ic28]
  have hct := fun σ => FSpec.frame (σ := σ) (refTow (T := T) (ft := ft) (room := room) hl) (by simp) rfl
  refine ab_seq_k fun K1 h1 => ?_
  simp
  refine h1 _ _ _ ?_
  clear h1 K1
  refine ab_seq_k fun K2 h2 => ?_
  refine ab_seq_k fun K3 h3 => ?_
  simp [take_towC]
  refine callK_of (hct _) ?_
  simp [take_towC]
  refine h3 _ _ _ ?_
  clear h3 K3
  refine ab_cond_of rfl (fun hc => ?_) (fun hc => ?_)
  · have hne : ¬ checkTow T room = 0 := by simpa using hc
    refine ab_seq_k fun K4 h4 => ?_
    simp [take_towC]
    refine callK_of (hct _) ?_
    simp [take_towC]
    refine h4 _ _ _ ?_
    clear h4 K4
    simp
    exact fin_of 1 (by simp [rs28, orderP, hne])
  have hct0 : checkTow T room = 0 := by simpa using hc
  have hb := fun σ => FSpec.frame (σ := σ) (first_ok (ft := ft) hct0) (by simp) (by simp)
  simp
  refine h2 _ _ _ ?_
  clear h2 K2
  refine ab_seq_k fun K4 h4 => ?_
  simp [take_towC]
  refine callK_of (hb _) ?_
  simp [take_towC]
  refine h4 _ _ _ ?_
  clear h4 K4
  simp
  exact fin_of 1 (by simp [rs28, orderP, hct0])
theorem prgOrder {T : Tw} {ft : Bool} {room : Int} (hl : (T.length : Int) < 1000000000) : FSpec Try.prog 27 [towV T ft room] [] (orderP T room) [] := by
  refine fn27.spec0 mixed noIt_ok ?_
  rw [ic27]
  refine ab_seq_k fun K1 h1 => ?_
  simp
  refine h1 _ _ _ ?_
  clear h1 K1
  by_cases hct0 : checkTow T room = 0
  · obtain ⟨n1, n7, tb, r0, r7⟩ := tow_len hct0
    obtain ⟨b1, b2, b3, b4⟩ := bestO_spec (T := T) (room := room)
    obtain ⟨m1, m2, -⟩ := orders_mem b2
    refine ab_seq_k fun K2 h2 => ?_
    simp [take_towC]
    refine callK_of (open_ok hl hct0) ?_
    simp [take_towC]
    refine h2 _ _ _ ?_
    clear h2 K2
    refine ab_seq_k fun K3 h3 => ?_
    refine ab_seq_k fun K4 h4 => ?_
    simp
    refine h4 _ _ _ ?_
    clear h4 K4
    refine ab_cond_of rfl (fun h => by cases h) (fun _ => ?_)
    simp
    refine h3 _ _ _ ?_
    clear h3 K3
    refine ab_seq_k fun K5 h5 => ?_
    simp
    refine callK_of (best_ok (ft := ft) (S := zer7) (H := zer7) (id := 2) hct0 (by intro o ho; simp at ho; rcases ho with rfl | rfl | rfl <;> exact pureO_row (by first | exact pure_towC | exact pure_canC)) rfl rfl rfl) ?_
    simp
    refine h5 _ _ _ ?_
    simp
    exact fin_of 1 (by simp [rs27, orderP, hct0, sl, m1])
  · refine ab_seq_k fun K2 h2 => ?_
    simp [take_towC]
    refine callK_of (open_no hl hct0) ?_
    simp [take_towC]
    refine h2 _ _ _ ?_
    clear h2 K2
    refine ab_seq_k fun K3 h3 => ?_
    refine ab_seq_k fun K4 h4 => ?_
    simp
    refine h4 _ _ _ ?_
    clear h4 K4
    refine ab_cond_of rfl (fun _ => ?_) (fun h => by simp [hct0] at h)
    refine ab_seq_k fun K5 h5 => ?_
    simp
    refine h5 _ _ _ ?_
    clear h5 K5
    simp
    exact fin_of 1 (by simp [rs27, orderP, hct0])
end Go.Ab
