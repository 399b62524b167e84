/- Firsts. -/
import Derived.Test.YtkcfknlpdfgjnaaLL
set_option linter.unusedVariables false
set_option linter.unusedSimpArgs false
set_option maxHeartbeats 4000000
namespace Go.Ab
open Go Go.Proofs

def addF (acc : List Int) (x : Int) : List Int := if x ∈ acc then acc else acc ++ [x]
/-- One order looked at. -/
def stepF (tm : List Int → Int) (b : Int) (acc : List Int) (p : List Int) : List Int := if tm p = b then addF acc (p.getD 0 0) else acc
def firstsF (tm : List Int → Int) (b : Int) (L : List (List Int)) : List Int := L.foldl (stepF tm b) []
theorem firstsF_take {tm : List Int → Int} {b : Int} {L : List (List Int)} {i : Nat} {p : List Int} (h : L[i]? = some p) : firstsF tm b (L.take (i + 1)) = stepF tm b (firstsF tm b (L.take i)) p := by
  unfold firstsF
  rw [List.take_add_one, h, List.foldl_append]; rfl
theorem stepF_len {tm : List Int → Int} {b : Int} {acc : List Int} {p : List Int} : (stepF tm b acc p).length ≤ acc.length + 1 := by
  unfold stepF addF
  split
  · split <;> simp
  · omega
theorem firstsF_len {tm : List Int → Int} {b : Int} {L : List (List Int)} : ∀ {i : Nat}, (firstsF tm b (L.take i)).length ≤ i
  | 0 => by simp [firstsF]
  | i + 1 => by
    have ih := firstsF_len (tm := tm) (b := b) (L := L) (i := i)
    by_cases h : i < L.length
    · rw [firstsF_take (List.getElem?_eq_getElem h)]
      have := stepF_len (tm := tm) (b := b) (acc := firstsF tm b (L.take i)) (p := L[i])
      omega
    · have e : L.take (i + 1) = L.take i := by rw [List.take_of_length_le (by omega), List.take_of_length_le (by omega)]
      rw [e]; omega
def firstsL (T : Tw) (room : Int) : List Int := firstsF (timeR T room) (timeR T room (bestO T room)) (ordersL T.length)
def firstsP (T : Tw) (room : Int) : V := if checkTow T room = 0 then .tup [.ss (ints (firstsL T room)) (firstsL T room).length ((firstsL T room).length == 0), .i .i64 0] else .tup [.ss [] 0 true, .i .i64 (checkTow T room)]

theorem refFirsts {T : Tw} {ft : Bool} {room : Int} (hl : (T.length : Int) < 1000000000) : FSpec Try.prog 30 [towV T ft room] [] (firstsP T room) [] := by
  refine fn30.spec0 mixed noIt_ok ?_
  rw [ic30]
  have hct := fun σ => FSpec.frame (σ := σ) (refTow (T := T) (ft := ft) (room := room) hl) (by simp) rfl
  refine ab_seq_k fun K1 h1 => ?_
  simp
  refine h1 _ _ _ ?_
  clear h1 K1
  refine ab_seq_k fun K2 h2 => ?_
  refine ab_seq_k fun K3 h3 => ?_
  simp [take_towC]
  refine callK_of (hct _) ?_
  simp [take_towC]
  refine h3 _ _ _ ?_
  clear h3 K3
  refine ab_cond_of rfl (fun hc => ?_) (fun hc => ?_)
  · have hne : ¬ checkTow T room = 0 := by simpa using hc
    refine ab_seq_k fun K4 h4 => ?_
    simp [take_towC]
    refine callK_of (hct _) ?_
    simp [take_towC]
    refine h4 _ _ _ ?_
    clear h4 K4
    simp
    exact fin_of 1 (by simp [rs30, firstsP, hne])
  have hct0 : checkTow T room = 0 := by simpa using hc
  simp
  refine h2 _ _ _ ?_
  clear h2 K2
  obtain ⟨n1, n7, tb, r0, r7⟩ := tow_len hct0
  have hb := fun σ => FSpec.frame (σ := σ) (bestOf_ok (ft := ft) hct0) (by simp) rfl
  have hmem := fun p (hp : p ∈ ordersL T.length) => orders_mem hp
  have htm := fun p (hp : p ∈ ordersL T.length) σ => FSpec.frame (σ := σ) (timeOf_ok (ft := ft) (fo := false) (room := room) (o := p) tb r0 r7 (by have := (hmem p hp).1; omega) (hmem p hp).2.1) (by simp) rfl
  have hord := fun σ => FSpec.frame (σ := σ) (orders60 n1 n7) (by simp) (by simp [pureL_sl])
  have hLlen : ((ordersL T.length).length : Int) < 1000000000 := by
    rw [← levels_orders]
    have h1 := levels_len n7 (j := T.length)
    have h2 : 7 ^ T.length ≤ 7 ^ 7 := Nat.pow_le_pow_right (by omega) n7
    omega
  have hfl : firstsL T room = firstsF (timeR T room) (timeR T room (bestO T room)) (ordersL T.length) := rfl
  generalize hLL : ordersL T.length = L at *
  generalize htb : timeR T room (bestO T room) = tb0 at *
  refine ab_seq_k fun K5 h5 => ?_
  simp [get0_towC]
  refine callK_of (hord _) ?_
  simp [get0_towC]
  refine h5 _ _ _ ?_
  clear h5 K5
  refine ab_seq_k fun K6 h6 => ?_
  simp [take_towC]
  refine callK_of (hb _) ?_
  simp [take_towC]
  refine h6 _ _ _ ?_
  clear h6 K6
  refine ab_seq_k fun K7 h7 => ?_
  simp
  refine h7 _ _ _ ?_
  clear h7 K7
  refine ab_seq_k fun K8 h8 => ?_
  refine ab_seq_k fun K9 h9 => ?_
  simp
  refine h9 _ _ _ ?_
  clear h9 K9
  refine ab_block_k fun K10 h10 => ?_
  refine ab_loop_k (fun m env σ => ∃ (i : Nat) (acc : List Int) (v : V), i + m = L.length ∧ acc = firstsF (timeR T room) tb0 (L.take i) ∧ env = [(1, .p 0 0 0), (4, .ss (L.map fun p => sl p false) L.length false), (5, .i .i64 tb0), (6, v), (7, .i .i64 i)] ∧ σ[0]? = some (.row 0 (towC T ft room)) ∧ Gr 1 1 σ v acc.length (ints acc)) L.length
    ⟨0, [], _, by omega, by simp [firstsF], by simp, rfl, Gr.nil⟩ ?_
  rintro m env σ ⟨i, acc, v, hi, hacc, rfl, hs0, hv⟩ K11 h11
  have hσ1 : 1 ≤ σ.length := by have := (List.getElem?_eq_some_iff.1 hs0).1; omega
  rw [ic30_0]
  refine ab_seq_k fun K12 h12 => ?_
  refine ab_seq_k fun K13 h13 => ?_
  simp
  refine h13 _ _ _ ?_
  clear h13 K13
  refine ab_cond_of rfl (fun hc => ?_) (fun hc => ?_)
  · have hil : i < L.length := by simpa using hc
    have hgi : L[i]? = some L[i] := List.getElem?_eq_getElem hil
    have hmi : L[i] ∈ L := List.getElem_mem hil
    generalize hpi : L[i] = p at hgi hmi
    have hpl := (hmem p hmi).1
    have hstep := firstsF_take (tm := timeR T room) (b := tb0) hgi
    rw [← hacc] at hstep
    have hal : acc.length ≤ i := by rw [hacc]; exact firstsF_len
    have hd2 : ∀ σ, FSpec Try.prog 43 [towV T ft room, sl p false] σ (.i .i64 (timeR T room p)) σ := fun σ => htm _ hmi σ
    have hp0 : 0 < p.length := by omega
    have hpx : p[0]? = some p[0] := List.getElem?_eq_getElem hp0
    have hgd : p.getD 0 0 = p[0] := by simp [List.getD, hpx]
    generalize hx : p[0] = x at hpx hgd
    have hhas : FSpec Try.prog 61 [v, .i .i64 x] σ (.b (acc.contains x)) σ := by
      refine FSpec.frozen 2 ?_ rfl
      simp only [List.map_cons, List.map_nil, frz_G hv pure_ints]
      have : frz 2 0 σ (.i .i64 x) = .i .i64 x := by simp [frz]
      rw [this]
      exact has61 (by omega)
    simp
    refine h12 _ _ _ ?_
    clear h12 K12
    refine ab_seq_k fun K14 h14 => ?_
    refine ab_block_k fun K15 h15 => ?_
    have hnext : ∀ env acc' v' σ', get env 1 = .p 0 0 0 → get env 4 = .ss (L.map fun p => sl p false) L.length false → get env 5 = .i .i64 tb0 → get env 6 = v' → get env 7 = .i .i64 i → acc' = stepF (timeR T room) tb0 acc p → σ'[0]? = some (.row 0 (towC T ft room)) → Gr 1 1 σ' v' acc'.length (ints acc') → K15 (some 0) env σ' := by
      intro env acc' v' σ' w1 w4 w5 w6 w7 a1 a2 a3
      refine h15 _ _ _ ?_
      refine h14 _ _ _ ?_
      simp [w1, w4, w5, w6, w7, wrap64 (x := (i : Int) + 1) (by omega) (by omega)]
      exact h11 _ _ _ (again (m - 1) (by omega) ⟨i + 1, acc', v', by omega, by rw [hstep, a1], by simp, a2, a3⟩)
    refine ab_seq_k fun K16 h16 => ?_
    by_cases he : timeR T room p = tb0
    · simp [abDs_consU, drU, recheck_cons, recheck_nil, rcK, IS.dst, take_towC, hs0, (List.getElem?_eq_some_iff.1 hs0).2, hgi, hil, hpi]
      refine callK_of (hd2 _) ?_
      simp [abDs_consU, drU, recheck_cons, recheck_nil, rcK, IS.dst, take_towC, hgi, hil, hpi, he, hpx, hp0, hx]
      refine callK_of hhas ?_
      simp [abDs_consU, drU, recheck_cons, recheck_nil, rcK, IS.dst]
      refine h16 _ _ _ ?_
      clear h16 K16
      refine ab_cond_of rfl (fun hc2 => ?_) (fun hc2 => ?_)
      · have hxa : ¬ x ∈ acc := by simpa using hc2
        simp [hgi, hil, hpi, hpx, hp0, hx]
        have hst : stepF (timeR T room) tb0 acc p = acc ++ [x] := by rw [stepF, if_pos he, addF, hgd, if_neg hxa]
        have hrow : ints acc ++ [V.i IntKind.i64 x] = ints (acc ++ [x]) := by simp [ints]
        refine appG hv hσ1 (by omega) (by simp) rfl ?_
        intro v' σ' hg1 hg2
        rw [hrow] at hg1
        simp
        exact hnext _ (acc ++ [x]) v' σ' rfl rfl rfl rfl rfl hst.symm (by rw [hg2.lt hv (by omega) hσ1]; exact hs0) (by rw [List.length_append]; exact hg1)
      · have hxa : x ∈ acc := by simpa using hc2
        simp
        exact hnext _ acc v σ rfl rfl rfl rfl rfl (by rw [stepF, if_pos he, addF, hgd, if_pos hxa]) hs0 hv
    · simp [abDs_consU, drU, recheck_cons, recheck_nil, rcK, IS.dst, take_towC, hs0, (List.getElem?_eq_some_iff.1 hs0).2, hgi, hil, hpi]
      refine callK_of (hd2 _) ?_
      simp [abDs_consU, drU, recheck_cons, recheck_nil, rcK, IS.dst, take_towC, hgi, hil, hpi, he, hpx, hp0, hx]
      refine h16 _ _ _ ?_
      clear h16 K16
      refine ab_cond_of rfl (fun hc2 => by cases hc2) (fun hc2 => ?_)
      simp
      exact hnext _ acc v σ rfl rfl rfl rfl rfl (by simp [stepF, he]) hs0 hv
  · have hil : i = L.length := by simp at hc; omega
    subst hil
    rw [List.take_length, ← hfl] at hacc
    subst hacc
    simp
    refine h10 _ _ _ ?_
    refine h8 _ _ _ ?_
    refine ab_seq_k fun K20 h20 => ?_
    simp
    refine h20 _ _ _ ?_
    clear h20 K20
    simp
    refine fin_of 3 ?_
    simp [rs30, firstsP, hct0, -frz]
    refine frz_two ?_
    rw [frz_G hv pure_ints]

/-! ### Orders begin with numbers that do not fall -/
theorem picks_pre {n : Nat} : ∀ {k : Nat} {b p : List Int}, p ∈ picks n k b → ∃ t, p = b ++ t
  | 0, b, p, h => ⟨[], by simp only [picks, List.mem_singleton] at h; simp [h]⟩
  | k + 1, b, p, h => by
    simp only [picks, List.mem_flatMap] at h
    obtain ⟨i, hi, hp⟩ := h
    split at hp
    · cases hp
    · obtain ⟨t, ht⟩ := picks_pre hp
      exact ⟨(i : Int) :: t, by simp [ht]⟩
theorem orders_sorted {n : Nat} : (ordersL n).Pairwise (fun p q => p.getD 0 0 ≤ q.getD 0 0) := by
  unfold ordersL
  cases n with
  | zero => simp [picks]
  | succ k =>
    rw [picks, List.pairwise_flatMap]
    have hm : ∀ (i : Nat) (p : List Int), p ∈ (if (i : Int) ∈ ([] : List Int) then [] else picks (k + 1) k ([] ++ [(i : Int)])) → p.getD 0 0 = i := by
      intro i p hp
      split at hp
      · cases hp
      · obtain ⟨t, rfl⟩ := picks_pre hp
        simp
    refine ⟨fun i _ => ?_, ?_⟩
    · rw [List.pairwise_iff_getElem]
      intro a b ha hb hab
      rw [hm i _ (List.getElem_mem ha), hm i _ (List.getElem_mem hb)]
      exact Int.le_refl _
    · rw [List.pairwise_iff_getElem]
      intro a b ha hb hab p hp q hq
      rw [hm _ _ hp, hm _ _ hq]
      simp
      omega
theorem firsts_from {tm : List Int → Int} {b : Int} {L : List (List Int)} : ∀ {i : Nat} {y : Int}, y ∈ firstsF tm b (L.take i) → ∃ j p, j < i ∧ L[j]? = some p ∧ y = p.getD 0 0
  | 0, y, h => by simp [firstsF] at h
  | i + 1, y, h => by
    by_cases hi : i < L.length
    · rw [firstsF_take (List.getElem?_eq_getElem hi)] at h
      have : y ∈ firstsF tm b (L.take i) ∨ y = (L[i]).getD 0 0 := by
        unfold stepF addF at h
        split at h
        · split at h
          · exact .inl h
          · simp only [List.mem_append, List.mem_singleton] at h; exact h
        · exact .inl h
      rcases this with h | h
      · obtain ⟨j, p, h1, h2, h3⟩ := firsts_from h
        exact ⟨j, p, by omega, h2, h3⟩
      · exact ⟨i, _, by omega, List.getElem?_eq_getElem hi, h⟩
    · have e : L.take (i + 1) = L.take i := by rw [List.take_of_length_le (by omega), List.take_of_length_le (by omega)]
      rw [e] at h
      obtain ⟨j, p, h1, h2, h3⟩ := firsts_from h
      exact ⟨j, p, by omega, h2, h3⟩
theorem firsts_max {tm : List Int → Int} {b : Int} {L : List (List Int)} (hs : L.Pairwise (fun p q => p.getD 0 0 ≤ q.getD 0 0)) : ∀ {i : Nat} {y l : Int}, y ∈ firstsF tm b (L.take i) → (firstsF tm b (L.take i)).getLast? = some l → y ≤ l
  | 0, y, l, h, _ => by simp [firstsF] at h
  | i + 1, y, l, h, hl => by
    by_cases hi : i < L.length
    · have hge : ∀ y ∈ firstsF tm b (L.take i), y ≤ (L[i]).getD 0 0 := by
        intro y hy
        obtain ⟨j, p, h1, h2, rfl⟩ := firsts_from hy
        obtain ⟨h3, rfl⟩ := List.getElem?_eq_some_iff.1 h2
        exact List.pairwise_iff_getElem.1 hs j i h3 hi h1
      rw [firstsF_take (List.getElem?_eq_getElem hi)] at h hl
      generalize L[i] = p at *
      unfold stepF addF at h hl
      split at h
      · split at h
        · rename_i h1 h2
          rw [if_pos h1, if_pos h2] at hl
          exact firsts_max hs h hl
        · rename_i h1 h2
          rw [if_pos h1, if_neg h2] at hl
          simp at hl
          simp only [List.mem_append, List.mem_singleton] at h
          rcases h with h | h
          · have := hge y h; simp at this; omega
          · simp at h; omega
      · rename_i h1
        rw [if_neg h1] at hl
        exact firsts_max hs h hl
    · have e : L.take (i + 1) = L.take i := by rw [List.take_of_length_le (by omega), List.take_of_length_le (by omega)]
      rw [e] at h hl
      exact firsts_max hs h hl
theorem firsts_last {tm : List Int → Int} {b : Int} {n i : Nat} {p : List Int} {x : Int} (hp : (ordersL n)[i]? = some p) (hx : p.getD 0 0 = x) (h : x ∈ firstsF tm b ((ordersL n).take i)) : (firstsF tm b ((ordersL n).take i)).getLast? = some x := by
  cases hl : (firstsF tm b ((ordersL n).take i)).getLast? with
  | none => rw [List.getLast?_eq_none_iff] at hl; rw [hl] at h; cases h
  | some l =>
    have h1 := firsts_max orders_sorted h hl
    obtain ⟨j, q, h2, h3, h4⟩ := firsts_from (List.mem_of_getLast? hl)
    obtain ⟨a1, a2⟩ := List.getElem?_eq_some_iff.1 h3
    obtain ⟨b1, b2⟩ := List.getElem?_eq_some_iff.1 hp
    have h5 := List.pairwise_iff_getElem.1 (orders_sorted (n := n)) j i a1 b1 h2
    rw [a2, b2] at h5
    have : l = x := by omega
    rw [this]

/-- The heap while Firsts goes by the orders. -/
structure HpF (T : Tw) (ft : Bool) (room tb : Int) (σ : List O) (ov : V) : Prop where
  can : ∃ S H, S.length = 7 ∧ H.length = 7 ∧ σ[2]? = some (.row 0 (canC T ft room S H))
  c3 : σ[3]? = some (.row 0 [.i .i64 tb])
  c4 : σ[4]? = some (.row 0 [ov])
  c5 : σ[5]? = some (.row 0 [.f (.func 50) [.p 2 0 0] []])
  c6 : σ[6]? = some (.row 0 [.p 2 0 0])
section
variable {T : Tw} {ft : Bool} {room tb : Int} {σ : List O} {ov : V}
theorem HpF.len (h : HpF T ft room tb σ ov) : 7 ≤ σ.length := by
  have := (List.getElem?_eq_some_iff.1 h.c6).1
  omega
theorem HpF.app {g : List O} (h : HpF T ft room tb σ ov) : HpF T ft room tb (σ ++ g) ov := by
  obtain ⟨S, H, h1, h2, h3⟩ := h.can
  exact ⟨⟨S, H, h1, h2, app_get h3⟩, app_get h.c3, app_get h.c4, app_get h.c5, app_get h.c6⟩
theorem HpF.setCan (h : HpF T ft room tb σ ov) {S H : List Int} (h1 : S.length = 7) (h2 : H.length = 7) : HpF T ft room tb (σ.set 2 (.row 0 (canC T ft room S H))) ov :=
  ⟨⟨S, H, h1, h2, List.getElem?_set_self (by have := h.len; omega)⟩, by rw [List.getElem?_set_ne (by omega)]; exact h.c3, by rw [List.getElem?_set_ne (by omega)]; exact h.c4, by rw [List.getElem?_set_ne (by omega)]; exact h.c5, by rw [List.getElem?_set_ne (by omega)]; exact h.c6⟩
theorem HpF.setOv (h : HpF T ft room tb σ ov) (ov' : V) : HpF T ft room tb (σ.set 4 (.row 0 [ov'])) ov' := by
  obtain ⟨S, H, h1, h2, h3⟩ := h.can
  exact ⟨⟨S, H, h1, h2, by rw [List.getElem?_set_ne (by omega)]; exact h3⟩, by rw [List.getElem?_set_ne (by omega)]; exact h.c3, List.getElem?_set_self (by have := h.len; omega), by rw [List.getElem?_set_ne (by omega)]; exact h.c5, by rw [List.getElem?_set_ne (by omega)]; exact h.c6⟩
theorem HpF.keep {σ' : List O} (h : HpF T ft room tb σ ov) (hk : ∀ j, j < 7 → σ'[j]? = σ[j]?) : HpF T ft room tb σ' ov := by
  obtain ⟨S, H, h1, h2, h3⟩ := h.can
  exact ⟨⟨S, H, h1, h2, by rw [hk _ (by omega)]; exact h3⟩, by rw [hk _ (by omega)]; exact h.c3, by rw [hk _ (by omega)]; exact h.c4, by rw [hk _ (by omega)]; exact h.c5, by rw [hk _ (by omega)]; exact h.c6⟩
end

theorem prgFirsts {T : Tw} {ft : Bool} {room : Int} (hl : (T.length : Int) < 1000000000) : FSpec Try.prog 29 [towV T ft room] [] (firstsP T room) [] := by
  refine fn29.spec0 mixed itT_ok ?_
  rw [ic29]
  refine ab_seq_k fun K1 h1 => ?_
  simp
  refine h1 _ _ _ ?_
  clear h1 K1
  by_cases hct0 : checkTow T room = 0
  · obtain ⟨n1, n7, tb, r0, r7⟩ := tow_len hct0
    obtain ⟨b1, b2, b3, b4⟩ := bestO_spec (T := T) (room := room)
    obtain ⟨m1, m2, -⟩ := orders_mem b2
    refine ab_seq_k fun K2 h2 => ?_
    simp [take_towC]
    refine callK_of (open_ok hl hct0) ?_
    simp [take_towC]
    refine h2 _ _ _ ?_
    clear h2 K2
    refine ab_seq_k fun K3 h3 => ?_
    refine ab_seq_k fun K4 h4 => ?_
    simp
    refine h4 _ _ _ ?_
    clear h4 K4
    refine ab_cond_of rfl (fun h => by cases h) (fun _ => ?_)
    simp
    refine h3 _ _ _ ?_
    clear h3 K3
    refine ab_seq_k fun K5 h5 => ?_
    simp
    refine callK_of (best_ok (ft := ft) (S := zer7) (H := zer7) (id := 2) hct0 (by intro o ho; simp at ho; rcases ho with rfl | rfl | rfl <;> exact pureO_row (by first | exact pure_towC | exact pure_canC)) rfl rfl rfl) ?_
    obtain ⟨l1, l2⟩ := runR_len (T := T) (room := room) (o := bestO T room)
    have hm1 : T.length = (bestO T room).length := m1.symm
    simp
    refine callK_of (run_ok (T := T) (ft := ft) (room := room) (S := pad7 (runR T room (bestO T room)).secs) (H := pad7 (runR T room (bestO T room)).thrs) (o := bestO T room) (id := 2) (ver := 0) tb r0 r7 (pad7_len (by omega)) (pad7_len (by omega)) rfl (.inl ⟨false, by rw [hm1]⟩) (by intro a b c d h; cases h) (by omega) m2) ?_
    simp
    refine h5 _ _ _ ?_
    clear h5 K5
    refine ab_seq_k fun K6 h6 => ?_
    simp
    refine h6 _ _ _ ?_
    clear h6 K6
    refine ab_seq_k fun K7 h7 => ?_
    simp
    refine h7 _ _ _ ?_
    clear h7 K7
    have htb : (runR T room (bestO T room)).last = timeR T room (bestO T room) := rfl
    rw [htb]
    generalize htb0 : timeR T room (bestO T room) = tb0
    refine ab_seq_k fun K8 h8 => ?_
    simp
    refine h8 _ _ _ ?_
    clear h8 K8
    refine ab_seq_k fun K9 h9 => ?_
    refine ab_seq_k fun K10 h10 => ?_
    simp
    refine callK_of (orders59) ?_
    simp
    refine h10 _ _ _ ?_
    clear h10 K10
    refine ab_block_k fun K11 h11 => ?_
    have hstart : HpF T ft room tb0 ([O.row 0 (towC T ft room), O.row 0 (towC T ft room), O.row 0 (canR T ft room (runR T room (bestO T room))), O.row 0 [V.i IntKind.i64 tb0], O.row 0 [V.ss [] 0 true], O.row 0 [V.f (Fn.func 50) [V.p 2 0 0] []], O.row 0 [.p 2 0 0]]) (.ss [] 0 true) :=
      ⟨⟨_, _, pad7_len (by omega), pad7_len (by omega), rfl⟩, rfl, rfl, rfl, rfl⟩
    have hcat : ∀ {σ2 : List O} {ov : V}, HpF T ft room tb0 σ2 ov → CanAt T.length 6 2 σ2 := by
      intro σ2 ov h
      obtain ⟨S', H', -, -, h3⟩ := h.can
      exact ⟨h.c6, _, _, ft, h3, canC_get0⟩
    have hfl : firstsL T room = firstsF (timeR T room) tb0 (ordersL T.length) := by rw [← htb0]; rfl
    have hLlen : ((ordersL T.length).length : Int) < 1000000000 := by
      rw [← levels_orders]
      have h1 := levels_len n7 (j := T.length)
      have h2 : 7 ^ T.length ≤ 7 ^ 7 := Nat.pow_le_pow_right (by omega) n7
      omega
    refine ⟨(picks T.length T.length []).length, XP T.length (picks T.length T.length []), CanAt T.length 6 2, orders_it (by omega) n1, fun i σ2 => ∃ ov acc, acc = firstsF (timeR T room) tb0 ((ordersL T.length).take i) ∧ HpF T ft room tb0 σ2 ov ∧ Gr 7 1 σ2 ov acc.length (ints acc),
      fun i σ2 ⟨ov, acc, _, h, _⟩ => hcat h, ⟨_, [], by simp [firstsF], hstart, Gr.nil⟩, ?_, ?_⟩
    · rintro i x σ2 g hi ⟨p, hpi, rfl, rfl⟩ ⟨ov, acc, hacc, hq, hv⟩
      have hpi' : (ordersL T.length)[i]? = some p := hpi
      obtain ⟨k1, k2, k3⟩ := orders_mem (List.mem_of_getElem? hpi')
      have hstep := firstsF_take (tm := timeR T room) (b := tb0) hpi'
      have hal2 : acc.length ≤ i := by rw [hacc]; exact firstsF_len
      have hi9 : i < 1000000000 := by have : (ordersL T.length).length = (picks T.length T.length []).length := rfl; omega
      have hlastx := fun x => firsts_last (tm := timeR T room) (b := tb0) (x := x) hpi'
      rw [← hacc] at hstep hlastx
      refine ⟨rfl, ?_⟩
      generalize hKR : roundK _ _ _ = KR
      have hfin : ∀ env σ3 ov' acc', HpF T ft room tb0 σ3 ov' → Gr 7 1 σ3 ov' acc'.length (ints acc') → acc' = stepF (timeR T room) tb0 acc p → KR (some 0) env σ3 := by
        intro env σ3 ov' acc' a1 a2 a3
        rw [← hKR]
        exact ⟨rfl, .inl ⟨ov', acc', by rw [hstep, a3], a1, a2⟩⟩
      clear hKR
      have hlen2 := hq.len
      have hqa := hq.app (g := [O.row 0 (ints p)])
      have hva := hv.app (g := [O.row 0 (ints p)])
      have hnew : (σ2 ++ [O.row 0 (ints p)])[σ2.length]? = some (.row 0 (ints p)) := by simp
      have hne : idOf ov ≠ some σ2.length := fun e => by have := (hv.id_ge e).2; omega
      have hll : σ2.length < (σ2 ++ [O.row 0 (ints p)]).length := by simp
      generalize σ2 ++ [O.row 0 (ints p)] = U at *
      generalize σ2.length = il at *
      have hp0 : 0 < p.length := by omega
      have hpx : p[0]? = some p[0] := List.getElem?_eq_getElem hp0
      have hgd : p.getD 0 0 = p[0] := by simp [List.getD, hpx]
      generalize hx : p[0] = x at hpx hgd
      have hlastx := hlastx x hgd
      have hrx : (ints p)[0]? = some (.i .i64 x) := by simp [ints, hpx]
      simp
      rw [ic29_0]
      refine ab_block_k fun K12 h12 => ?_
      refine ab_seq_k fun K13 h13 => ?_
      refine ab_seq_k fun K14 h14 => ?_
      have hK14 : ∀ env v, get env 6 = .p 3 0 0 → get env 7 = .p 4 0 0 → get env 8 = .p 5 0 0 → get env 9 = .s il 0 0 T.length 1 → get env 41 = .b v → (v = true ↔ acc.getLast? = some x) → K14 (some 0) env U := by
        intro env v w6 w7 w8 w9 w41 hv1
        refine h14 _ _ _ ?_
        clear h14 K14
        refine ab_cond_of w41 (fun hc => ?_) (fun hc => ?_)
        · have hla := hv1.1 hc
          have hxa : x ∈ acc := List.mem_of_getLast? hla
          simp
          refine h12 _ _ _ (hfin _ _ _ _ hqa hva ?_)
          unfold stepF addF
          rw [hgd, if_pos hxa]
          split <;> rfl
        · have hxa : ¬ x ∈ acc := by
            intro h
            have := hv1.2 (hlastx h)
            rw [hc] at this; cases this
          simp
          refine h13 _ _ _ ?_
          clear h13 K13
          have c5 := hqa.c5
          have c3 := hqa.c3
          obtain ⟨S2, H2, hS2, hH2, hcan⟩ := hqa.can
          refine ab_seq_k fun K15 h15 => ?_
          obtain ⟨hc5l, c5'⟩ := List.getElem?_eq_some_iff.1 c5
          obtain ⟨hc3l, c3'⟩ := List.getElem?_eq_some_iff.1 c3
          rw [ab_alt_one]
          simp [abDs_consU, drU, recheck_cons, recheck_nil, rcK, IS.dst, c5, c5', c3, c3', w6, w7, w8, w9]
          refine callK_of (run_ok (T := T) (ft := ft) (room := room) (o := p) (id := 2) (ver := 0) tb r0 r7 hS2 hH2 hcan (.inr ⟨il, 0, by rw [k1], hnew⟩) (by intro a b c d h; cases h; omega) (by omega) k2) ?_
          obtain ⟨l3, l4⟩ := runR_len (T := T) (room := room) (o := p)
          have hqb := hqa.setCan (S := pad7 (runR T room p).secs) (H := pad7 (runR T room p).thrs) (pad7_len (by omega)) (pad7_len (by omega))
          have hW : canC T ft room (pad7 (runR T room p).secs) (pad7 (runR T room p).thrs) = canR T ft room (runR T room p) := rfl
          rw [hW] at hqb
          have hvb := hva.set (i := 2) (o := .row 0 (canR T ft room (runR T room p))) (fun e => by have := (hva.id_ge e).1; omega)
          have hnewb : (U.set 2 (.row 0 (canR T ft room (runR T room p))))[il]? = some (.row 0 (ints p)) := by rw [List.getElem?_set_ne (by omega)]; exact hnew
          have hWl : (U.set 2 (.row 0 (canR T ft room (runR T room p)))).length = U.length := by simp
          generalize U.set 2 (.row 0 (canR T ft room (runR T room p))) = W at *
          have c3 := hqb.c3
          have c4 := hqb.c4
          obtain ⟨hc3l, c3'⟩ := List.getElem?_eq_some_iff.1 c3
          simp [abDs_consU, drU, recheck_cons, recheck_nil, rcK, IS.dst, c3, c3', w6, w7, w8, w9]
          refine h15 _ _ _ ?_
          clear h15 K15
          refine ab_cond_of rfl (fun hc2 => ?_) (fun hc2 => ?_)
          · have he : timeR T room p = tb0 := by unfold timeR; simpa using hc2
            have hst : stepF (timeR T room) tb0 acc p = acc ++ [x] := by rw [stepF, if_pos he, addF, hgd, if_neg hxa]
            have hrow : ints acc ++ [V.i IntKind.i64 x] = ints (acc ++ [x]) := by simp [ints]
            obtain ⟨hnbl, hnewb'⟩ := List.getElem?_eq_some_iff.1 hnewb
            obtain ⟨hc4l, c4'⟩ := List.getElem?_eq_some_iff.1 c4
            simp [abDs_consU, drU, recheck_cons, recheck_nil, rcK, IS.dst, c4, c4', hnewb, hnewb', hpx]
            rcases hvb.cases with ⟨ha0, ha1, hov⟩ | ⟨id, ver, han, hid, hov, hs, hidl⟩
            · subst hov
              simp [abDs_consU, drU, recheck_cons, recheck_nil, rcK, IS.dst, c4, c4', hnewb, hnewb', hpx]
              have hae : acc = [] := List.eq_nil_of_length_eq_zero ha0
              subst hae
              have hqc := hqb.app (g := [O.row 0 [V.i IntKind.i64 x]])
              have d4 := hqc.c4
              have hWl7 := hqb.len
              have hqd := hqc.setOv (.s W.length 0 0 1 1)
              refine ⟨by omega, ?_⟩
              simp [abDs_consU, drU, recheck_cons, recheck_nil, rcK, IS.dst, d4]
              refine h12 _ _ _ (hfin _ _ (.s W.length 0 0 1 1) [x] hqd ?_ (by rw [hst]; rfl))
              have hg : Gr 7 1 (W ++ [O.row 0 [V.i IntKind.i64 x]]) (.s W.length 0 0 1 1) 1 (ints [x]) := ⟨rfl, .inr ⟨by omega, W.length, 0, hWl7, rfl, by simp [ints]⟩⟩
              exact hg.set (fun e => by have := (hg.id_ge e).1; omega)
            · subst hov
              obtain ⟨hsl, hs'⟩ := List.getElem?_eq_some_iff.1 hs
              simp [abDs_consU, drU, recheck_cons, recheck_nil, rcK, IS.dst, c4, c4', hnewb, hnewb', hpx, hs, hs']
              rw [hrow]
              have hqc := hqb.keep (σ' := W.set id (O.row (ver + 1) (ints (acc ++ [x])))) (fun j hj => List.getElem?_set_ne (by omega))
              have d4 := hqc.c4
              have hqd := hqc.setOv (.s id (ver + 1) 0 (acc.length + 1) 1)
              refine ⟨by omega, by omega, ?_⟩
              rw [d4]
              simp [abDs_consU, drU, recheck_cons, recheck_nil, rcK, IS.dst]
              refine h12 _ _ _ (hfin _ _ (.s id (ver + 1) 0 (acc.length + 1) 1) (acc ++ [x]) hqd ?_ (by rw [hst]))
              have hg : Gr 7 1 (W.set id (O.row (ver + 1) (ints (acc ++ [x])))) (.s id (ver + 1) 0 (acc.length + 1) 1) (acc ++ [x]).length (ints (acc ++ [x])) := ⟨by simp, .inr ⟨by simp, id, ver + 1, hid, by simp, List.getElem?_set_self hsl⟩⟩
              exact hg.set (fun e => by have := (hg.id_ge e).1; omega)
          · have he : ¬ timeR T room p = tb0 := by unfold timeR; simpa using hc2
            simp
            refine h12 _ _ _ (hfin _ _ _ _ hqb hvb ?_)
            rw [stepF, if_neg he]
      have c4 := hqa.c4
      obtain ⟨hc4l, c4'⟩ := List.getElem?_eq_some_iff.1 c4
      rcases hva.cases with ⟨ha0, ha1, rfl⟩ | ⟨id, ver, han, hid, rfl, hs, hidl⟩
      · have hae : acc = [] := List.eq_nil_of_length_eq_zero ha0
        simp [abDs_consU, drU, recheck_cons, recheck_nil, rcK, IS.dst, c4, c4']
        exact hK14 _ false rfl rfl rfl rfl rfl (by simp [hae])
      · have hal : acc.length - 1 < acc.length := by omega
        have hy : acc[acc.length - 1]? = some acc[acc.length - 1] := List.getElem?_eq_getElem hal
        generalize hyy : acc[acc.length - 1] = y at hy
        have hgl : acc.getLast? = some y := by rw [List.getLast?_eq_getElem?, hy]
        have hpos : 0 < acc.length := by omega
        obtain ⟨hsl, hs'⟩ := List.getElem?_eq_some_iff.1 hs
        obtain ⟨hnl, hnew'⟩ := List.getElem?_eq_some_iff.1 hnew
        have hcst : ((acc.length : Int) - 1).toNat = acc.length - 1 := by omega
        have h01 : (0 : Int) ≤ (acc.length : Int) - 1 := by omega
        have h02 : ((acc.length : Int) - 1) < acc.length := by omega
        simp [abDs_consU, drU, recheck_cons, recheck_nil, rcK, IS.dst, c4, c4', hpos, hs, hs', hnew, hnew', hcst, hy, hpx, wrap64 (x := (acc.length : Int) - 1) (by omega) (by omega), h01, h02]
        refine ⟨by omega, by omega, hK14 _ (decide (y = x)) rfl rfl rfl rfl rfl ?_⟩
        rw [hgl]
        simp
    · rintro σ2 ⟨ov, acc, hacc, hq, hv⟩
      have hall : (ordersL T.length).take (picks T.length T.length []).length = ordersL T.length := List.take_length
      rw [hall, ← hfl] at hacc
      subst hacc
      have c4 := hq.c4
      refine h11 _ _ _ ?_
      refine h9 _ _ _ ?_
      refine ab_seq_k fun K20 h20 => ?_
      simp [c4]
      refine h20 _ _ _ ?_
      clear h20 K20
      simp
      refine fin_of 3 ?_
      simp [rs29, firstsP, hct0, -frz]
      refine frz_two ?_
      rw [frz_G hv pure_ints]
  · refine ab_seq_k fun K2 h2 => ?_
    simp [take_towC]
    refine callK_of (open_no hl hct0) ?_
    simp [take_towC]
    refine h2 _ _ _ ?_
    clear h2 K2
    refine ab_seq_k fun K3 h3 => ?_
    refine ab_seq_k fun K4 h4 => ?_
    simp
    refine h4 _ _ _ ?_
    clear h4 K4
    refine ab_cond_of rfl (fun _ => ?_) (fun h => by simp [hct0] at h)
    refine ab_seq_k fun K5 h5 => ?_
    simp
    refine h5 _ _ _ ?_
    clear h5 K5
    simp
    exact fin_of 1 (by simp [rs29, firstsP, hct0])
end Go.Ab
