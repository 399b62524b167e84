/- Maps by keys of so many whole numbers. -/
import Derived.Test.YtgndegccjhdmmaaGreatJG
set_option linter.unusedVariables false
set_option linter.unusedSimpArgs false
set_option maxHeartbeats 4000000
namespace Go.Ab
open Go Go.Proofs

abbrev kV (k : List Int) : V := .agg (k.map (V.i .u16))
abbrev Ent := Nat × List Int × V
def mpV (E : List Ent) : List (Nat × V × V) := E.map fun e => (e.1, kV e.2.1, e.2.2)
structure MapOK (n : Nat) (E : List Ent) (c : Nat) : Prop where
  n0 : n ≠ 0
  len : ∀ e ∈ E, e.2.1.length = n
  keys : (E.map (·.2.1)).Nodup
  stamps : (E.map (·.1)).Nodup
  lt : ∀ e ∈ E, e.1 < c
def lk (E : List Ent) (k : List Int) : Option V := (E.find? fun e => e.2.1 == k).map (·.2.2)
theorem MapOK.nil {n : Nat} (h : n ≠ 0) : MapOK n [] 0 := ⟨h, by simp, by simp, by simp, by simp⟩
@[simp] theorem mpV_len {E : List Ent} : (mpV E).length = E.length := by simp [mpV]
theorem mpV_nil : mpV [] = [] := rfl
theorem intsK_all {k : List Int} : intsK .u16 (k.map (V.i .u16)) = some k := by
  induction k with
  | nil => rfl
  | cons a k ih => simp [intsK, ih]
theorem keyOf_kV {n : Nat} {k : List Int} (h : k.length = n) (h0 : n ≠ 0) : keyOf .u16 n (kV k) = some k := by
  unfold keyOf kV
  simp only [List.length_map]
  rw [if_pos ⟨h, h0⟩, intsK_all]
theorem MapOK.keysOK {n : Nat} {E : List Ent} {c : Nat} (h : MapOK n E c) : keysOK .u16 n ((mpV E).map (·.2)) := by
  intro e he
  simp only [mpV, List.map_map, List.mem_map, Function.comp] at he
  obtain ⟨x, hx, rfl⟩ := he
  exact ⟨_, keyOf_kV (h.len x hx) h.n0⟩
theorem keysOK_of {n : Nat} {E : List Ent} (h0 : n ≠ 0) (h : ∀ e ∈ E, e.2.1.length = n) : keysOK .u16 n ((mpV E).map (·.2)) := by
  intro e he
  simp only [mpV, List.map_map, List.mem_map, Function.comp] at he
  obtain ⟨x, hx, rfl⟩ := he
  exact ⟨_, keyOf_kV (h x hx) h0⟩
theorem findM_mp {n : Nat} (h0 : n ≠ 0) {k : List Int} : ∀ {E : List Ent}, (∀ e ∈ E, e.2.1.length = n) → findM .u16 n k ((mpV E).map (·.2)) = lk E k
  | [], _ => rfl
  | x :: E, h => by
    have ih := findM_mp h0 (k := k) (E := E) (fun e he => h e (List.mem_cons_of_mem _ he))
    unfold mpV lk at ih ⊢
    simp only [List.map_cons, findM, keyOf_kV (h x (List.mem_cons_self ..)) h0]
    by_cases hx : x.2.1 = k
    · rw [if_pos (by rw [hx]), List.find?_cons_of_pos (by simp [hx])]; rfl
    · rw [if_neg (fun e => hx (Option.some.inj e)), ih, List.find?_cons_of_neg (by simp [hx])]
theorem idxM_mp {n : Nat} (h0 : n ≠ 0) {k : List Int} : ∀ {E : List Ent}, (∀ e ∈ E, e.2.1.length = n) → idxM .u16 n k ((mpV E).map (·.2)) = E.findIdx? fun e => e.2.1 == k
  | [], _ => rfl
  | x :: E, h => by
    have ih := idxM_mp h0 (k := k) (E := E) (fun e he => h e (List.mem_cons_of_mem _ he))
    unfold mpV at ih ⊢
    simp only [List.map_cons, idxM, keyOf_kV (h x (List.mem_cons_self ..)) h0]
    rw [List.findIdx?_cons]
    by_cases hx : x.2.1 = k
    · rw [if_pos (by rw [hx]), if_pos (by simp [hx])]
    · rw [if_neg (fun e => hx (Option.some.inj e)), if_neg (by simp [hx]), ih]
theorem lk_none {E : List Ent} {k : List Int} : lk E k = none ↔ k ∉ E.map (·.2.1) := by
  unfold lk
  rw [Option.map_eq_none_iff, List.find?_eq_none]
  constructor
  · intro h hm
    obtain ⟨e, he, rfl⟩ := List.mem_map.1 hm
    exact h e he (by simp)
  · intro h e he hk
    exact h (List.mem_map.2 ⟨e, he, by simpa using hk⟩)
theorem lk_at {n : Nat} {E : List Ent} {c : Nat} (h : MapOK n E c) {j : Nat} {e : Ent} (hj : E[j]? = some e) : lk E e.2.1 = some e.2.2 := by
  have hk := h.keys
  unfold lk
  have : E.find? (fun x => x.2.1 == e.2.1) = some e := by
    clear h
    induction E generalizing j with
    | nil => cases hj
    | cons x E ih =>
      rw [List.map_cons, List.nodup_cons] at hk
      by_cases hx : x.2.1 = e.2.1
      · rw [List.find?_cons_of_pos (by simp [hx])]
        cases j with
        | zero => exact hj
        | succ j =>
          exfalso
          exact hk.1 (List.mem_map.2 ⟨e, List.mem_of_getElem? (by simpa using hj), hx.symm⟩)
      · rw [List.find?_cons_of_neg (by simp [hx])]
        cases j with
        | zero => simp at hj; exact absurd (by rw [hj]) hx
        | succ j => exact ih (by simpa using hj) hk.2
  rw [this]; rfl
theorem lk_some {E : List Ent} {k : List Int} {v : V} (h : lk E k = some v) : ∃ (j s : Nat), E[j]? = some (s, k, v) ∧ E.findIdx? (fun e => e.2.1 == k) = some j := by
  unfold lk at h
  rw [Option.map_eq_some_iff] at h
  obtain ⟨e, he, rfl⟩ := h
  induction E with
  | nil => cases he
  | cons x E ih =>
    by_cases hx : x.2.1 = k
    · rw [List.find?_cons_of_pos (by simp [hx])] at he
      have hxe : x = e := Option.some.inj he
      subst hxe
      exact ⟨0, x.1, by rw [← hx]; rfl, by rw [List.findIdx?_cons, if_pos (by simp [hx])]⟩
    · rw [List.find?_cons_of_neg (by simp [hx])] at he
      obtain ⟨j, s, h1, h2⟩ := ih he
      exact ⟨j + 1, s, by simpa using h1, by rw [List.findIdx?_cons, if_neg (by simp [hx]), h2]; rfl⟩
theorem findIdx_none {E : List Ent} {k : List Int} (h : lk E k = none) : E.findIdx? (fun e => e.2.1 == k) = none := by
  rw [List.findIdx?_eq_none_iff]
  intro e he
  have := lk_none.1 h
  cases hk : e.2.1 == k with
  | false => rfl
  | true => exact absurd (List.mem_map.2 ⟨e, he, by simpa using hk⟩) this
/-- The value at a place changed. -/
def setAt (E : List Ent) (j : Nat) (v : V) : List Ent := E.modify j fun e => (e.1, e.2.1, v)
theorem setAt_keys {E : List Ent} {j : Nat} {v : V} : (setAt E j v).map (·.2.1) = E.map (·.2.1) := by
  apply List.ext_getElem?
  intro i
  rw [List.getElem?_map, List.getElem?_map, setAt, List.getElem?_modify]
  cases E[i]? with
  | none => rfl
  | some e => by_cases h : j = i <;> simp [h]
theorem setAt_stamps {E : List Ent} {j : Nat} {v : V} : (setAt E j v).map (·.1) = E.map (·.1) := by
  apply List.ext_getElem?
  intro i
  rw [List.getElem?_map, List.getElem?_map, setAt, List.getElem?_modify]
  cases E[i]? with
  | none => rfl
  | some e => by_cases h : j = i <;> simp [h]
theorem setAt_mem {E : List Ent} {j : Nat} {v : V} {e : Ent} (h : e ∈ setAt E j v) : ∃ x ∈ E, e.1 = x.1 ∧ e.2.1 = x.2.1 := by
  obtain ⟨i, hi⟩ := List.mem_iff_getElem?.1 h
  rw [setAt, List.getElem?_modify] at hi
  cases hx : E[i]? with
  | none => rw [hx] at hi; cases hi
  | some x =>
    rw [hx] at hi
    refine ⟨x, List.mem_of_getElem? hx, ?_⟩
    by_cases hij : j = i
    · simp [hij] at hi; rw [← hi]; exact ⟨rfl, rfl⟩
    · simp [hij] at hi; rw [← hi]; exact ⟨rfl, rfl⟩
theorem setAt_mem' {E : List Ent} {j : Nat} {v : V} {e : Ent} (h : e ∈ setAt E j v) : e ∈ E ∨ e.2.2 = v := by
  obtain ⟨i, hi⟩ := List.mem_iff_getElem?.1 h
  rw [setAt, List.getElem?_modify] at hi
  cases hx : E[i]? with
  | none => rw [hx] at hi; cases hi
  | some x =>
    rw [hx] at hi
    by_cases hij : j = i
    · simp [hij] at hi; rw [← hi]; exact .inr rfl
    · simp [hij] at hi; rw [← hi]; exact .inl (List.mem_of_getElem? hx)
@[simp] theorem setAt_len {E : List Ent} {j : Nat} {v : V} : (setAt E j v).length = E.length := by simp [setAt]
theorem setAt_last {E : List Ent} {c : Nat} {k : List Int} {v0 v : V} : setAt (E ++ [(c, k, v0)]) E.length v = E ++ [(c, k, v)] := by
  unfold setAt
  induction E with
  | nil => rfl
  | cons x E ih => rw [List.cons_append, List.length_cons, List.modify_succ_cons, ih]; rfl
theorem MapOK.setAt {n : Nat} {E : List Ent} {c : Nat} (h : MapOK n E c) {j : Nat} {v : V} : MapOK n (setAt E j v) c := by
  refine ⟨h.n0, fun e he => ?_, by rw [setAt_keys]; exact h.keys, by rw [setAt_stamps]; exact h.stamps, fun e he => ?_⟩
  · obtain ⟨x, hx, -, e2⟩ := setAt_mem he
    rw [e2]; exact h.len x hx
  · obtain ⟨x, hx, e1, -⟩ := setAt_mem he
    rw [e1]; exact h.lt x hx
theorem mpV_setAt {E : List Ent} {j : Nat} {v : V} : (mpV E).modify j (fun e => (e.1, e.2.1, v)) = mpV (setAt E j v) := by
  apply List.ext_getElem?
  intro i
  unfold mpV Go.Ab.setAt
  rw [List.getElem?_modify, List.getElem?_map, List.getElem?_map, List.getElem?_modify]
  cases E[i]? with
  | none => rfl
  | some e => by_cases h : j = i <;> simp [h]
theorem MapOK.push {n : Nat} {E : List Ent} {c : Nat} (h : MapOK n E c) {k : List Int} {v : V} (hk : k.length = n) (hn : lk E k = none) : MapOK n (E ++ [(c, k, v)]) (c + 1) := by
  refine ⟨h.n0, fun e he => ?_, ?_, ?_, fun e he => ?_⟩
  · rcases List.mem_append.1 he with he | he
    · exact h.len e he
    · simp at he; subst he; exact hk
  · rw [List.map_append, List.nodup_append]
    refine ⟨h.keys, by simp, fun a ha b hb => ?_⟩
    simp at hb
    subst hb
    rintro rfl
    exact lk_none.1 hn ha
  · rw [List.map_append, List.nodup_append]
    refine ⟨h.stamps, by simp, fun a ha b hb => ?_⟩
    simp at hb
    subst hb
    obtain ⟨e, he, rfl⟩ := List.mem_map.1 ha
    have := h.lt e he
    omega
  · rcases List.mem_append.1 he with he | he
    · have := h.lt e he; omega
    · simp at he; subst he; simp
theorem mpV_push {E : List Ent} {c : Nat} {k : List Int} {v : V} : mpV E ++ [(c, kV k, v)] = mpV (E ++ [(c, k, v)]) := by simp [mpV]
theorem lk_push {E : List Ent} {c : Nat} {k k' : List Int} {v : V} : lk (E ++ [(c, k, v)]) k' = (lk E k').or (if k = k' then some v else none) := by
  unfold lk
  rw [List.find?_append]
  cases h : E.find? (fun e => e.2.1 == k') with
  | some e => simp
  | none =>
    by_cases hk : k = k'
    · simp [hk]
    · simp [hk]
theorem lk_setAt {n : Nat} {E : List Ent} {c : Nat} (h : MapOK n E c) {j s : Nat} {k k' : List Int} {v v' : V} (hj : E[j]? = some (s, k, v')) : lk (setAt E j v) k' = if k = k' then some v else lk E k' := by
  have hjv : (setAt E j v)[j]? = some (s, k, v) := by rw [setAt, List.getElem?_modify, hj]; simp
  by_cases hk : k = k'
  · subst hk
    rw [if_pos rfl]
    exact lk_at h.setAt hjv
  · rw [if_neg hk]
    cases h1 : lk E k' with
    | none =>
      rw [lk_none] at h1 ⊢
      rw [setAt_keys]
      exact h1
    | some w =>
      obtain ⟨i, s', hi, -⟩ := lk_some h1
      have hij : j ≠ i := by
        rintro rfl
        rw [hj] at hi
        cases hi
        exact hk rfl
      have : (setAt E j v)[i]? = some (s', k', w) := by rw [setAt, List.getElem?_modify, hi]; simp [hij]
      exact lk_at h.setAt this
theorem stamp_at {n : Nat} {E : List Ent} {c : Nat} (h : MapOK n E c) {j : Nat} {e : Ent} (hj : E[j]? = some e) : (mpV E).findIdx? (fun x => ((x.1 : Nat) : Int) == ((e.1 : Nat) : Int)) = some j := by
  have hs := h.stamps
  clear h
  unfold mpV
  induction E generalizing j with
  | nil => cases hj
  | cons x E ih =>
    rw [List.map_cons, List.nodup_cons] at hs
    rw [List.map_cons, List.findIdx?_cons]
    by_cases hx : x.1 = e.1
    · rw [if_pos (by simp [hx])]
      cases j with
      | zero => rfl
      | succ j =>
        exfalso
        exact hs.1 (List.mem_map.2 ⟨e, List.mem_of_getElem? (by simpa using hj), hx.symm⟩)
    · rw [if_neg (by simp; omega)]
      cases j with
      | zero => simp at hj; exact absurd (by rw [hj]) hx
      | succ j => rw [ih (by simpa using hj) hs.2]; rfl

/-! ### The operations -/
section
variable {n : Nat} {E : List Ent} {c id : Nat} {σ : List O} {k : List Int} {zs : V}
theorem lkpC_ok {ok : Bool} {C : Ct} (h : MapOK n E c) (hσ : σ[id]? = some (.map (mpV E) c)) (hC : C (match lk E k with | some v => (if ok then .tup [v, .b true] else v) | none => (if ok then .tup [zs, .b false] else zs)) σ) (hk : k.length = n) :
    lkpC .u16 n zs ok (.m id) (kV k) σ C := by
  unfold lkpC lkpK
  simp only [keyOf_kV hk h.n0, hσ, lkpF]
  refine ⟨h.keysOK, ?_⟩
  rw [findM_mp h.n0 h.len]
  cases h1 : lk E k with
  | none => rw [h1] at hC; exact hC
  | some v => rw [h1] at hC; exact hC
theorem lenmC_ok {C : Ct} (hσ : σ[id]? = some (.map (mpV E) c)) (hC : C (.i .i64 E.length) σ) : lenmC (.m id) σ C := by
  unfold lenmC lenmK
  simp only [hσ, mpV_len]
  exact hC
theorem lkpC_sm {ok : Bool} {C : Ct} (h0 : n ≠ 0) (h : ∀ e ∈ E, e.2.1.length = n) (hC : C (match lk E k with | some v => (if ok then .tup [v, .b true] else v) | none => (if ok then .tup [zs, .b false] else zs)) σ) (hk : k.length = n) :
    lkpC .u16 n zs ok (.sm ((mpV E).map (·.2))) (kV k) σ C := by
  unfold lkpC lkpK
  simp only [keyOf_kV hk h0, lkpF]
  refine ⟨keysOK_of h0 h, ?_⟩
  rw [findM_mp h0 h]
  cases h1 : lk E k with
  | none => rw [h1] at hC; exact hC
  | some v => rw [h1] at hC; exact hC
theorem mentK_old {K : Ct} {j s : Nat} {v : V} (h : MapOK n E c) (hσ : σ[id]? = some (.map (mpV E) c)) (hj : E[j]? = some (s, k, v)) (hK : K (.tup [v, .i .i64 (s : Nat)]) σ) : mentK .u16 n zs (.m id) (kV k) σ K := by
  have hk : k.length = n := h.len _ (List.mem_of_getElem? hj)
  unfold mentK
  simp only [keyOf_kV hk h.n0, hσ]
  refine ⟨h.keysOK, ?_⟩
  obtain ⟨j', s', h1, h2⟩ := lk_some (lk_at h hj)
  rw [idxM_mp h.n0 h.len, h2]
  have hjj : j' = j := by
    have a := stamp_at h hj
    have hkk := h.keys
    have hlt := (List.getElem?_eq_some_iff.1 hj).1
    have hlt' := (List.getElem?_eq_some_iff.1 h1).1
    have e1 : (E.map (·.2.1))[j]? = some k := by rw [List.getElem?_map, hj]; rfl
    have e2 : (E.map (·.2.1))[j']? = some k := by rw [List.getElem?_map, h1]; rfl
    false_or_by_contra
    rename_i hne
    rcases Nat.lt_or_gt_of_ne hne with hl | hl
    · have := List.pairwise_iff_getElem.1 hkk j' j (by simpa using hlt') (by simpa using hlt) hl
      rw [List.getElem?_eq_some_iff] at e1 e2
      obtain ⟨_, e1⟩ := e1
      obtain ⟨_, e2⟩ := e2
      exact this (by rw [e1, e2])
    · have := List.pairwise_iff_getElem.1 hkk j j' (by simpa using hlt) (by simpa using hlt') hl
      rw [List.getElem?_eq_some_iff] at e1 e2
      obtain ⟨_, e1⟩ := e1
      obtain ⟨_, e2⟩ := e2
      exact this (by rw [e1, e2])
  subst hjj
  have : (mpV E)[j']? = some (s, kV k, v) := by unfold mpV; rw [List.getElem?_map, hj]; rfl
  simp only [this]
  exact hK
theorem mentK_new {K : Ct} (h : MapOK n E c) (hσ : σ[id]? = some (.map (mpV E) c)) (hk : k.length = n) (hn : lk E k = none) (hK : K (.tup [zs, .i .i64 (c : Nat)]) (σ.set id (.map (mpV (E ++ [(c, k, zs)])) (c + 1)))) : mentK .u16 n zs (.m id) (kV k) σ K := by
  unfold mentK
  simp only [keyOf_kV hk h.n0, hσ]
  refine ⟨h.keysOK, ?_⟩
  rw [idxM_mp h.n0 h.len, findIdx_none hn]
  simp only
  rw [mpV_push]
  exact hK
theorem mestK_ok {K : Ct} {j s : Nat} {v v' : V} (h : MapOK n E c) (hσ : σ[id]? = some (.map (mpV E) c)) (hj : E[j]? = some (s, k, v')) (hK : K .u (σ.set id (.map (mpV (setAt E j v)) c))) : mestK (.m id) (.i .i64 (s : Nat)) v σ K := by
  unfold mestK
  simp only [hσ]
  have := stamp_at h hj
  simp only at this
  rw [this]
  simp only
  rw [mpV_setAt]
  exact hK
theorem msetK_new {K : Ct} {v : V} (h : MapOK n E c) (hσ : σ[id]? = some (.map (mpV E) c)) (hk : k.length = n) (hn : lk E k = none) (hK : K .u (σ.set id (.map (mpV (E ++ [(c, k, v)])) (c + 1)))) : msetK .u16 n (.m id) (kV k) v σ K := by
  unfold msetK
  simp only [keyOf_kV hk h.n0, hσ]
  refine ⟨h.keysOK, ?_⟩
  rw [idxM_mp h.n0 h.len, findIdx_none hn]
  simp only
  rw [mpV_push]
  exact hK
theorem MapOK.erase (h : MapOK n E c) {j : Nat} : MapOK n (E.eraseIdx j) c := by
  have hs := List.eraseIdx_sublist E j
  exact ⟨h.n0, fun e he => h.len e (hs.subset he), h.keys.sublist (hs.map _), h.stamps.sublist (hs.map _), fun e he => h.lt e (hs.subset he)⟩
theorem mpV_erase {E : List Ent} {j : Nat} : (mpV E).eraseIdx j = mpV (E.eraseIdx j) := by
  unfold mpV
  induction E generalizing j with
  | nil => rfl
  | cons x E ih => cases j with
    | zero => rfl
    | succ j => simp only [List.map_cons, List.eraseIdx_cons_succ, ih]
theorem mdelK_old {K : Ct} {v : V} {j : Nat} (h : MapOK n E c) (hσ : σ[id]? = some (.map (mpV E) c)) (hj : E.findIdx? (fun e => e.2.1 == k) = some j) (hk : k.length = n) (hK : K .u (σ.set id (.map (mpV (E.eraseIdx j)) c))) : mdelK .u16 n (.m id) (kV k) σ K := by
  unfold mdelK
  simp only [keyOf_kV hk h.n0, hσ]
  refine ⟨h.keysOK, ?_⟩
  rw [idxM_mp h.n0 h.len, hj]
  simp only
  rw [mpV_erase]
  exact hK
end
theorem rng_K {σ : List O} {id c : Nat} {es : List (Nat × V × V)} {C : Ct} (h : σ[id]? = some (.map es c)) (hC : C (.p σ.length 0 0) (σ ++ [.it id c [] c])) : rngK (.m id) σ C := by
  simp only [rngK, h]; exact hC

theorem nxt_K {σ : List O} {id mid since : Nat} {seen : List Nat} {es : List (Nat × V × V)} {C : Ct} (h1 : σ[id]? = some (.it mid since seen since)) (h2 : σ[mid]? = some (.map es since)) (hb : ∀ e ∈ es, e.1 < since)
    (hend : (∀ e ∈ es, e.1 ∈ seen) → C (.tup [.b false]) σ) (hgo : ∀ e ∈ es, e.1 ∉ seen → C (.tup [.b true, e.2.1, e.2.2]) (σ.set id (.it mid since (seen ++ [e.1]) since))) : nxtK (.p id 0 0) σ C := by
  simp only [nxtK, h1, h2]
  exact ⟨trivial, trivial, trivial, trivial, hb, hend, hgo⟩

theorem ent_K {σ : List O} {id mid since stepped b : Nat} {seen : List Nat} {es : List (Nat × V × V)} {C : Ct} {e : Nat × V × V} (h1 : σ[id]? = some (.it mid since (seen ++ [b]) stepped)) (h2 : σ[mid]? = some (.map es stepped))
    (hf : es.find? (fun e => e.1 == b) = some e) (hC : C (.tup [e.2.1, e.2.2]) σ) : entC (.p id 0 0) σ C := by
  simp only [entC, entK, h1, h2, List.getLast?_append, List.getLast?_singleton, Option.some_or, hf]
  exact ⟨trivial, trivial, trivial, hC⟩

theorem nodup_inj {α β : Type} {f : α → β} : ∀ {l : List α}, (l.map f).Nodup → ∀ {a b : α}, a ∈ l → b ∈ l → f a = f b → a = b
  | [], _, _, _, h, _, _ => by cases h
  | x :: l, hn, a, b, ha, hb, h => by
    simp only [List.map_cons, List.nodup_cons] at hn
    rcases List.mem_cons.1 ha with h1 | h1 <;> rcases List.mem_cons.1 hb with h2 | h2
    · rw [h1, h2]
    · exact absurd (by rw [← h1, h]; exact List.mem_map_of_mem h2) hn.1
    · exact absurd (by rw [← h2, ← h]; exact List.mem_map_of_mem h1) hn.1
    · exact nodup_inj hn.2 h1 h2 h
theorem erase_filter {n : Nat} {E : List Ent} {c : Nat} (h : MapOK n E c) {k : List Int} {j : Nat} (hj : E.findIdx? (fun e => e.2.1 == k) = some j) : E.eraseIdx j = E.filter fun e => !decide (e.2.1 = k) := by
  have hk := h.keys
  clear h
  induction E generalizing j with
  | nil => cases hj
  | cons x E ih =>
    rw [List.map_cons, List.nodup_cons] at hk
    rw [List.findIdx?_cons] at hj
    by_cases hx : x.2.1 = k
    · rw [if_pos (by simp [hx])] at hj
      cases hj
      rw [List.eraseIdx_cons_zero, List.filter_cons_of_neg (by simp [hx])]
      symm
      rw [List.filter_eq_self]
      intro y hy
      have : y.2.1 ≠ k := fun e => hk.1 (List.mem_map.2 ⟨y, hy, by rw [e, hx]⟩)
      simp [this]
    · rw [if_neg (by simp [hx])] at hj
      cases hf : E.findIdx? (fun e => e.2.1 == k) with
      | none => rw [hf] at hj; cases hj
      | some i =>
        rw [hf] at hj
        cases hj
        rw [List.eraseIdx_cons_succ, List.filter_cons_of_pos (by simp [hx]), ih hf hk.2]
theorem find_stamp {n : Nat} {E : List Ent} {c : Nat} (h : MapOK n E c) {e : Ent} (he : e ∈ E) : (mpV E).find? (fun x => x.1 == e.1) = some (e.1, kV e.2.1, e.2.2) := by
  have hs := h.stamps
  clear h
  induction E with
  | nil => cases he
  | cons x E ih =>
    rw [List.map_cons, List.nodup_cons] at hs
    unfold mpV at ih ⊢
    rw [List.map_cons]
    rcases List.mem_cons.1 he with rfl | he
    · rw [List.find?_cons_of_pos (by simp)]
    · have : x.1 ≠ e.1 := fun e' => hs.1 (List.mem_map.2 ⟨e, he, e'.symm⟩)
      rw [List.find?_cons_of_neg (by simpa using this)]
      exact ih he hs.2
theorem MapOK.filter {n : Nat} {E : List Ent} {c : Nat} (h : MapOK n E c) {p : Ent → Bool} : MapOK n (E.filter p) c := by
  have hs := List.filter_sublist (l := E) (p := p)
  exact ⟨h.n0, fun e he => h.len e (hs.subset he), h.keys.sublist (hs.map _), h.stamps.sublist (hs.map _), fun e he => h.lt e (hs.subset he)⟩
end Go.Ab
