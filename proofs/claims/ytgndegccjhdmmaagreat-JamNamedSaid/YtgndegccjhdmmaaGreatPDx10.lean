import Derived.Test.YtgndegccjhdmmaaGreatPDx9
/- Part 10 of what the theorem in TC rests on: an abstract layer over the calculus, contracts of the functions of the program, and plain facts. -/
set_option linter.unusedVariables false
set_option linter.unusedSimpArgs false
set_option linter.constructorNameAsVariable false
set_option maxHeartbeats 4000000
set_option maxRecDepth 100000
section
namespace Go.Ab
open Go Go.Proofs
def ints (l : List Int) : List V := l.map (V.i .i64)
abbrev sl (l : List Int) (f : Bool) : V := .ss (ints l) l.length f
@[simp] theorem pure_ints {l : List Int} : pureL (ints l) = true := by
 induction l with
 | nil => rfl
 | cons a l ih => simp [ints] at ih ⊢; exact ih
@[simp] theorem len_ints {l : List Int} : (ints l).length = l.length := by simp [ints]
@[simp high] theorem get_ints {l : List Int} {i : Nat} : (ints l)[i]? = l[i]?.map (V.i .i64) := by simp [ints]
theorem wrap64 {x : Int} (h1 : -9223372036854775808 ≤ x) (h2 : x < 9223372036854775808) : IntKind.i64.wrap x = x := by
 simp only [IntKind.wrap, IntKind.bits, IntKind.signed]
 simp
 split <;> omega
theorem within1 {x lo hi : Int} : FSpec Tryz.prog 100 [.i .i64 x, .sp [.i .i64 lo] 0, .sp [.i .i64 hi] 0] [] (.b (decide (x < lo) || decide (hi < x))) [] := by
 refine fn100.spec0 mixed noIt_ok ?_
 rw [ic100]
 refine ab_seq_k fun K1 h1 => ?_
 simp
 refine h1 _ _ _ (ab_seq_k fun K2 h2 => ?_)
 by_cases h : x < lo <;> simp [h] <;> (refine h2 _ _ _ ?_; simp; exact fin_of 1 (by simp [rs100, h]))
def inv117 (l : List Int) (full : Bool) (g : FuncId) (first cap : List V) (p : Int → Bool) (m : Nat) (env : Env) (σ : List O) : Prop :=
 ∃ i : Nat, i + m = l.length ∧ (∀ (j : Nat) (x : Int), j < i → l[j]? = some x → p x = false) ∧ env = [(0, sl l full), (1, .f (.func g) first cap), (7, .i .i64 l.length), (8, .i .i64 i)] ∧ σ = []
theorem indexFunc {l : List Int} {full : Bool} {g : FuncId} {first cap : List V} {p : Int → Bool} (hg : ∀ x ∈ l, FSpec Tryz.prog g (first ++ [.i .i64 x] ++ cap) [] (.b (p x)) []) (hl : (l.length : Int) < 1000000000) :
  FSpec Tryz.prog 117 [sl l full, .f (.func g) first cap] [] (.i .i64 (match l.findIdx? p with | some i => (i : Int) | none => -1)) [] := by
 refine fn117.spec0 mixed noIt_ok ?_
 rw [ic117]
 refine ab_seq_k fun K1 h1 => ?_
 simp
 refine h1 _ _ _ (ab_seq_k fun K2 h2 => ab_seq_k fun K3 h3 => ?_)
 simp
 refine h3 _ _ _ (ab_block_k fun K4 h4 => ab_loop_k (inv117 l full g first cap p) l.length ⟨0, by simp, by simp, by simp, rfl⟩ ?_)
 rintro m env σ ⟨i, hi, hprev, rfl, rfl⟩ K5 h5
 rw [ic117_0]
 refine ab_seq_k fun K6 h6 => ?_
 simp
 refine h6 _ _ _ (ab_seq_k fun K7 h7 => ?_)
 by_cases hlt : i < l.length
 ·refine ab_cond_of rfl (fun _ => ?_) (fun h => by simp at h; omega)
  have hget : l[i]? = some l[i] := List.getElem?_eq_getElem hlt
  have hmem := List.getElem_mem hlt
  generalize hx : l[i] = x at hget hmem
  simp
  refine h7 _ _ _ (ab_seq_k fun K8 h8 => ab_block_k fun K9 h9 => ab_seq_k fun K10 h10 => ?_)
  simp
  refine h10 _ _ _ (ab_seq_k fun K11 h11 => ?_)
  simp [hlt, hx]
  refine callK_of (by simpa using hg x hmem) ?_
  simp
  refine h11 _ _ _ (ab_cond_of rfl (fun hp => ?_) (fun hp => ?_))
  ·refine ab_seq_k fun K12 h12 => ?_
   simp
   refine h12 _ _ _ ?_
   have : l.findIdx? p = some i := by
    rw [List.findIdx?_eq_some_iff_getElem]
    exact ⟨hlt, by rw [hx]; exact hp, fun j hj => by have := hprev j _ hj (List.getElem?_eq_getElem (by omega)); simpa using this⟩
   simp [this]
   exact fin_of 1 (by simp [rs117])
  ·simp
   refine h9 _ _ _ (h8 _ _ _ ?_)
   simp [wrap64 (x := (i : Int) + 1) (by omega) (by omega)]
   refine h5 _ _ _ (again (m - 1) (by omega) ⟨i + 1, by omega, fun j y hj hy => ?_, by simp, rfl⟩)
   by_cases hji : j = i
   ·subst hji; rw [hget] at hy; cases hy; exact hp
   ·exact hprev j y (by omega) hy
 ·refine ab_cond_of rfl (fun h => by simp at h; omega) (fun _ => ?_)
  simp
  refine h4 _ _ _ (h2 _ _ _ (ab_seq_k fun K8 h8 => ?_))
  simp
  refine h8 _ _ _ ?_
  have : l.findIdx? p = none := by
   rw [List.findIdx?_eq_none_iff]
   intro x hx
   obtain ⟨j, hj⟩ := List.mem_iff_getElem?.1 hx
   have := (List.getElem?_eq_some_iff.1 hj).1
   exact hprev j x (by omega) hj
  simp [this]
  exact fin_of 1 (by simp [rs117])
theorem containsFunc {l : List Int} {full : Bool} {g : FuncId} {first cap : List V} {p : Int → Bool} (hg : ∀ x ∈ l, FSpec Tryz.prog g (first ++ [.i .i64 x] ++ cap) [] (.b (p x)) []) (hl : (l.length : Int) < 1000000000) :
  FSpec Tryz.prog 99 [sl l full, .f (.func g) first cap] [] (.b (l.any p)) [] := by
 refine fn99.spec0 mixed noIt_ok ?_
 rw [ic99]
 refine ab_seq_k fun K1 h1 => ?_
 simp
 refine h1 _ _ _ (ab_seq_k fun K2 h2 => ?_)
 simp
 refine callK_of (indexFunc hg hl) ?_
 simp
 refine h2 _ _ _ ?_
 simp
 refine fin_of 1 ?_
 simp [rs99]
 cases h : l.findIdx? p with
 | none =>
  rw [List.findIdx?_eq_none_iff] at h
  simp
  intro x hx
  exact h x hx
 | some i =>
  rw [List.findIdx?_eq_some_iff_getElem] at h
  obtain ⟨h1, h2, -⟩ := h
  simp
  exact ⟨_, List.getElem_mem h1, h2⟩
theorem any_not {l : List Int} {lo hi : Int} : (l.any fun x => decide (x < lo) || decide (hi < x)) = !(l.all fun x => decide (lo ≤ x) && decide (x ≤ hi)) := by
 induction l with
 | nil => rfl
 | cons x l ih =>
  simp only [List.any_cons, List.all_cons, ih, Bool.not_and]
  congr 1
  by_cases h1 : x < lo <;> by_cases h2 : hi < x <;> simp [h1, h2] <;> omega
theorem within {l : List Int} {full : Bool} {lo hi : Int} (hl : (l.length : Int) < 1000000000) : FSpec Tryz.prog 69 [.i .i64 lo, .i .i64 hi, sl l full] [] (.b (l.all fun x => decide (lo ≤ x) && decide (x ≤ hi))) [] := by
 refine fn69.spec0 mixed noIt_ok ?_
 rw [ic69]
 refine ab_seq_k fun K1 h1 => ?_
 simp
 refine h1 _ _ _ (ab_seq_k fun K2 h2 => ?_)
 simp
 refine callK_of (FSpec.frozen 3 (v := .b (!(l.all fun x => decide (lo ≤ x) && decide (x ≤ hi)))) ?_ rfl) ?_
 ·simp only [← any_not]
  simp
  exact containsFunc (g := 100) (first := []) (cap := [.sp [.i .i64 lo] 0, .sp [.i .i64 hi] 0]) (fun x _ => within1) hl
 ·simp
  refine h2 _ _ _ ?_
  simp
  exact fin_of 1 (by simp [rs69])
def fit (lo hi x : Int) : Bool := decide (lo ≤ x) && decide (x ≤ hi)
theorem within0 {x lo hi : Int} {σ : List O} : FSpec Tryz.prog 69 [.i .i64 lo, .i .i64 hi, .ss [.i .i64 x] 1 true] σ (.b (fit lo hi x)) σ := by
 have h := FSpec.frame (σ := σ) (within (l := [x]) (full := true) (lo := lo) (hi := hi) (by simp)) (by simp) rfl
 have e : (.b ([x].all fun x => decide (lo ≤ x) && decide (x ≤ hi)) : V) = .b (fit lo hi x) := by simp [fit]
 rw [e] at h
 exact h
theorem getD_get {l : List Int} {i : Nat} (h : i < l.length) : l[i]? = some (l.getD i 0) ∧ l[i]'h = l.getD i 0 ∧ l.getD i 0 ∈ l := by
 have h1 : l[i]? = some (l.getD i 0) := by rw [List.getD_eq_getElem?_getD, List.getElem?_eq_getElem h]; rfl
 refine ⟨h1, ?_, List.mem_of_getElem? h1⟩
 rw [List.getElem?_eq_getElem h] at h1
 exact Option.some.inj h1
end Go.Ab
end
section
namespace Go.Ab
open Go Go.Proofs
@[simp] theorem get_del_ne : ∀ {env : Env} {s t : Nat}, s ≠ t → get (del env s) t = get env t
 | [], s, t, h => rfl
 | (u, v) :: r, s, t, h => by
  by_cases hu : u = s
  ·subst hu
   rw [del_eq, get_ne h, get_del_ne h]
  ·rw [del_ne hu]
   by_cases ht : u = t
   ·subst ht; rw [get_eq, get_eq]
   ·rw [get_ne ht, get_ne ht, get_del_ne h]
def SlI (σ : List O) (v : V) (l : List Int) : Prop := (∃ f, v = sl l f) ∨ ∃ id ver, v = .s id ver 0 l.length 1 ∧ σ[id]? = some (.row ver (ints l))
theorem SlI.ss {σ : List O} {l : List Int} {f : Bool} : SlI σ (sl l f) l := .inl ⟨f, rfl⟩
section
variable {P : Program} {Y : Yield} {n0 : Nat}
def drU (P : Program) (Y : Yield) (n0 : Nat) (s : IS) (us : List Nat) (r : List (IS × List Nat)) (j : Nat) (pend : List (IS × Env × V × List Nat)) (K : Kt) (md : Md) (env : Env) (σ : List O) (md' : Md) (env' : Env) (σ' : List O) : Prop :=
 md' = md ∧ (s.loud = false → σ' = σ) ∧ recheck P Y n0 j pend md σ' ∧ abDs P Y n0 r (j + 1) (if us.isEmpty then pend else (s, env, (match s.dst with | some d => get env' d | none => .u), us) :: pend) K md' env' σ'
theorem abDs_consU {s : IS} {us : List Nat} {r : List (IS × List Nat)} {j : Nat} {pend : List (IS × Env × V × List Nat)} {K : Kt} {md : Md} {env : Env} {σ : List O} : abDs P Y n0 ((s, us) :: r) j pend K md env σ = abS P Y n0 s (drU P Y n0 s us r j pend K md env σ) md env σ := (rfl)
def rcK (md : Md) (env : Env) (d : Option Nat) (v : V) (σ : List O) (md' : Md) (env' : Env) (σ' : List O) : Prop := md' = md ∧ env' = put env d v ∧ σ' = σ
theorem recheck_cons {s : IS} {env : Env} {v : V} {us : List Nat} {r : List (IS × Env × V × List Nat)} {j : Nat} {md : Md} {σ : List O} :
  recheck P Y n0 j ((s, env, v, us) :: r) md σ = ((if us.contains j then abS P Y n0 s (rcK md env s.dst v σ) md env σ else True) ∧ recheck P Y n0 j r md σ) := (rfl)
theorem recheck_nil {j : Nat} {md : Md} {σ : List O} : recheck P Y n0 j [] md σ = True := (rfl)
end
def Dj (v w : V) : Prop := ∀ j, idOf v = some j → idOf w ≠ some j
theorem Grew.other {k es' n' : Nat} {v v' w : V} {σ σ' : List O} {cs' : List V} (g : Grew v v' σ σ') (hw : Gr k es' σ w n' cs') (hd : Dj v w) : Gr k es' σ' w n' cs' :=
 hw.keep fun j hk hj => g.keep j (hw.id_ge hj).2 (fun e => hd j e hj)
theorem Dj.symm {v w : V} (h : Dj v w) : Dj w v := fun j h1 h2 => h j h2 h1
theorem frz_row {k n id ver m es : Nat} {σ : List O} {cs : List V} (h : σ[id]? = some (.row ver cs)) (hn : n ≤ id) (hl : cs.length = m * es) (hp : pureL cs = true) : frz (k + 2) n σ (.s id ver 0 m es) = .ss cs m false := by
 rw [frz]
 simp only [V.pure, Bool.false_eq_true, if_false, Nat.not_lt.2 hn, h]
 rw [if_pos ⟨trivial, by simp [hl]⟩]
 have e : List.take (m * es) (List.drop 0 cs) = cs := by rw [List.drop_zero]; exact List.take_of_length_le (by omega)
 rw [e, map_frz hp]
end Go.Ab
end
section
namespace Go.Ab
open Go Go.Proofs
abbrev kV (k : List Int) : V := .agg (k.map (V.i .u16))
abbrev Ent := Nat × List Int × V
def mpV (E : List Ent) : List (Nat × V × V) := E.map fun e => (e.1, kV e.2.1, e.2.2)
structure MapOK (n : Nat) (E : List Ent) (c : Nat) : Prop where
 n0 : n ≠ 0
 len : ∀ e ∈ E, e.2.1.length = n
 keys : (E.map (·.2.1)).Nodup
 stamps : (E.map (·.1)).Nodup
 lt : ∀ e ∈ E, e.1 < c
def lk (E : List Ent) (k : List Int) : Option V := (E.find? fun e => e.2.1 == k).map (·.2.2)
theorem MapOK.nil {n : Nat} (h : n ≠ 0) : MapOK n [] 0 := ⟨h, by simp, by simp, by simp, by simp⟩
theorem intsK_all {k : List Int} : intsK .u16 (k.map (V.i .u16)) = some k := by
 induction k with
 | nil => rfl
 | cons a k ih => simp [intsK, ih]
theorem keyOf_kV {n : Nat} {k : List Int} (h : k.length = n) (h0 : n ≠ 0) : keyOf .u16 n (kV k) = some k := by
 unfold keyOf kV
 simp only [List.length_map]
 rw [if_pos ⟨h, h0⟩, intsK_all]
theorem MapOK.keysOK {n : Nat} {E : List Ent} {c : Nat} (h : MapOK n E c) : keysOK .u16 n ((mpV E).map (·.2)) := by
 intro e he
 simp only [mpV, List.map_map, List.mem_map, Function.comp] at he
 obtain ⟨x, hx, rfl⟩ := he
 exact ⟨_, keyOf_kV (h.len x hx) h.n0⟩
theorem keysOK_of {n : Nat} {E : List Ent} (h0 : n ≠ 0) (h : ∀ e ∈ E, e.2.1.length = n) : keysOK .u16 n ((mpV E).map (·.2)) := by
 intro e he
 simp only [mpV, List.map_map, List.mem_map, Function.comp] at he
 obtain ⟨x, hx, rfl⟩ := he
 exact ⟨_, keyOf_kV (h x hx) h0⟩
theorem findM_mp {n : Nat} (h0 : n ≠ 0) {k : List Int} : ∀ {E : List Ent}, (∀ e ∈ E, e.2.1.length = n) → findM .u16 n k ((mpV E).map (·.2)) = lk E k
 | [], _ => rfl
 | x :: E, h => by
  have ih := findM_mp h0 (k := k) (E := E) (fun e he => h e (List.mem_cons_of_mem _ he))
  unfold mpV lk at ih ⊢
  simp only [List.map_cons, findM, keyOf_kV (h x (List.mem_cons_self ..)) h0]
  by_cases hx : x.2.1 = k
  ·rw [if_pos (by rw [hx]), List.find?_cons_of_pos (by simp [hx])]; rfl
  ·rw [if_neg (fun e => hx (Option.some.inj e)), ih, List.find?_cons_of_neg (by simp [hx])]
theorem idxM_mp {n : Nat} (h0 : n ≠ 0) {k : List Int} : ∀ {E : List Ent}, (∀ e ∈ E, e.2.1.length = n) → idxM .u16 n k ((mpV E).map (·.2)) = E.findIdx? fun e => e.2.1 == k
 | [], _ => rfl
 | x :: E, h => by
  have ih := idxM_mp h0 (k := k) (E := E) (fun e he => h e (List.mem_cons_of_mem _ he))
  unfold mpV at ih ⊢
  simp only [List.map_cons, idxM, keyOf_kV (h x (List.mem_cons_self ..)) h0]
  rw [List.findIdx?_cons]
  by_cases hx : x.2.1 = k
  ·rw [if_pos (by rw [hx]), if_pos (by simp [hx])]
  ·rw [if_neg (fun e => hx (Option.some.inj e)), if_neg (by simp [hx]), ih]
theorem lk_none {E : List Ent} {k : List Int} : lk E k = none ↔ k ∉ E.map (·.2.1) := by
 unfold lk
 rw [Option.map_eq_none_iff, List.find?_eq_none]
 constructor
 ·intro h hm
  obtain ⟨e, he, rfl⟩ := List.mem_map.1 hm
  exact h e he (by simp)
 ·intro h e he hk
  exact h (List.mem_map.2 ⟨e, he, by simpa using hk⟩)
theorem lk_at {n : Nat} {E : List Ent} {c : Nat} (h : MapOK n E c) {j : Nat} {e : Ent} (hj : E[j]? = some e) : lk E e.2.1 = some e.2.2 := by
 have hk := h.keys
 unfold lk
 have : E.find? (fun x => x.2.1 == e.2.1) = some e := by
  clear h
  induction E generalizing j with
  | nil => cases hj
  | cons x E ih =>
   rw [List.map_cons, List.nodup_cons] at hk
   by_cases hx : x.2.1 = e.2.1
   ·rw [List.find?_cons_of_pos (by simp [hx])]
    cases j with
    | zero => exact hj
    | succ j =>
     exfalso
     exact hk.1 (List.mem_map.2 ⟨e, List.mem_of_getElem? (by simpa using hj), hx.symm⟩)
   ·rw [List.find?_cons_of_neg (by simp [hx])]
    cases j with
    | zero => simp at hj; exact absurd (by rw [hj]) hx
    | succ j => exact ih (by simpa using hj) hk.2
 rw [this]; rfl
theorem lk_some {E : List Ent} {k : List Int} {v : V} (h : lk E k = some v) : ∃ (j s : Nat), E[j]? = some (s, k, v) ∧ E.findIdx? (fun e => e.2.1 == k) = some j := by
 unfold lk at h
 rw [Option.map_eq_some_iff] at h
 obtain ⟨e, he, rfl⟩ := h
 induction E with
 | nil => cases he
 | cons x E ih =>
  by_cases hx : x.2.1 = k
  ·rw [List.find?_cons_of_pos (by simp [hx])] at he
   have hxe : x = e := Option.some.inj he
   subst hxe
   exact ⟨0, x.1, by rw [← hx]; rfl, by rw [List.findIdx?_cons, if_pos (by simp [hx])]⟩
  ·rw [List.find?_cons_of_neg (by simp [hx])] at he
   obtain ⟨j, s, h1, h2⟩ := ih he
   exact ⟨j + 1, s, by simpa using h1, by rw [List.findIdx?_cons, if_neg (by simp [hx]), h2]; rfl⟩
theorem findIdx_none {E : List Ent} {k : List Int} (h : lk E k = none) : E.findIdx? (fun e => e.2.1 == k) = none := by
 rw [List.findIdx?_eq_none_iff]
 intro e he
 have := lk_none.1 h
 cases hk : e.2.1 == k with
 | false => rfl
 | true => exact absurd (List.mem_map.2 ⟨e, he, by simpa using hk⟩) this
theorem MapOK.push {n : Nat} {E : List Ent} {c : Nat} (h : MapOK n E c) {k : List Int} {v : V} (hk : k.length = n) (hn : lk E k = none) : MapOK n (E ++ [(c, k, v)]) (c + 1) := by
 refine ⟨h.n0, fun e he => ?_, ?_, ?_, fun e he => ?_⟩
 ·rcases List.mem_append.1 he with he | he
  ·exact h.len e he
  ·simp at he; subst he; exact hk
 ·rw [List.map_append, List.nodup_append]
  refine ⟨h.keys, by simp, fun a ha b hb => ?_⟩
  simp at hb
  subst hb
  rintro rfl
  exact lk_none.1 hn ha
 ·rw [List.map_append, List.nodup_append]
  refine ⟨h.stamps, by simp, fun a ha b hb => ?_⟩
  simp at hb
  subst hb
  obtain ⟨e, he, rfl⟩ := List.mem_map.1 ha
  have := h.lt e he
  omega
 ·rcases List.mem_append.1 he with he | he
  ·have := h.lt e he; omega
  ·simp at he; subst he; simp
theorem mpV_push {E : List Ent} {c : Nat} {k : List Int} {v : V} : mpV E ++ [(c, kV k, v)] = mpV (E ++ [(c, k, v)]) := by simp [mpV]
section
variable {n : Nat} {E : List Ent} {c id : Nat} {σ : List O} {k : List Int} {zs : V}
theorem lkpC_ok {ok : Bool} {C : Ct} (h : MapOK n E c) (hσ : σ[id]? = some (.map (mpV E) c)) (hC : C (match lk E k with | some v => (if ok then .tup [v, .b true] else v) | none => (if ok then .tup [zs, .b false] else zs)) σ) (hk : k.length = n) :
  lkpC .u16 n zs ok (.m id) (kV k) σ C := by
 unfold lkpC lkpK
 simp only [keyOf_kV hk h.n0, hσ, lkpF]
 refine ⟨h.keysOK, ?_⟩
 rw [findM_mp h.n0 h.len]
 cases h1 : lk E k with
 | none => rw [h1] at hC; exact hC
 | some v => rw [h1] at hC; exact hC
theorem lkpC_sm {ok : Bool} {C : Ct} (h0 : n ≠ 0) (h : ∀ e ∈ E, e.2.1.length = n) (hC : C (match lk E k with | some v => (if ok then .tup [v, .b true] else v) | none => (if ok then .tup [zs, .b false] else zs)) σ) (hk : k.length = n) :
  lkpC .u16 n zs ok (.sm ((mpV E).map (·.2))) (kV k) σ C := by
 unfold lkpC lkpK
 simp only [keyOf_kV hk h0, lkpF]
 refine ⟨keysOK_of h0 h, ?_⟩
 rw [findM_mp h0 h]
 cases h1 : lk E k with
 | none => rw [h1] at hC; exact hC
 | some v => rw [h1] at hC; exact hC
theorem msetK_new {K : Ct} {v : V} (h : MapOK n E c) (hσ : σ[id]? = some (.map (mpV E) c)) (hk : k.length = n) (hn : lk E k = none) (hK : K .u (σ.set id (.map (mpV (E ++ [(c, k, v)])) (c + 1)))) : msetK .u16 n (.m id) (kV k) v σ K := by
 unfold msetK
 simp only [keyOf_kV hk h.n0, hσ]
 refine ⟨h.keysOK, ?_⟩
 rw [idxM_mp h.n0 h.len, findIdx_none hn]
 simp only
 rw [mpV_push]
 exact hK
theorem MapOK.erase (h : MapOK n E c) {j : Nat} : MapOK n (E.eraseIdx j) c := by
 have hs := List.eraseIdx_sublist E j
 exact ⟨h.n0, fun e he => h.len e (hs.subset he), h.keys.sublist (hs.map _), h.stamps.sublist (hs.map _), fun e he => h.lt e (hs.subset he)⟩
theorem mpV_erase {E : List Ent} {j : Nat} : (mpV E).eraseIdx j = mpV (E.eraseIdx j) := by
 unfold mpV
 induction E generalizing j with
 | nil => rfl
 | cons x E ih => cases j with
  | zero => rfl
  | succ j => simp only [List.map_cons, List.eraseIdx_cons_succ, ih]
theorem mdelK_old {K : Ct} {v : V} {j : Nat} (h : MapOK n E c) (hσ : σ[id]? = some (.map (mpV E) c)) (hj : E.findIdx? (fun e => e.2.1 == k) = some j) (hk : k.length = n) (hK : K .u (σ.set id (.map (mpV (E.eraseIdx j)) c))) : mdelK .u16 n (.m id) (kV k) σ K := by
 unfold mdelK
 simp only [keyOf_kV hk h.n0, hσ]
 refine ⟨h.keysOK, ?_⟩
 rw [idxM_mp h.n0 h.len, hj]
 simp only
 rw [mpV_erase]
 exact hK
end
theorem rng_K {σ : List O} {id c : Nat} {es : List (Nat × V × V)} {C : Ct} (h : σ[id]? = some (.map es c)) (hC : C (.p σ.length 0 0) (σ ++ [.it id c [] c])) : rngK (.m id) σ C := by
 simp only [rngK, h]; exact hC
theorem nxt_K {σ : List O} {id mid since : Nat} {seen : List Nat} {es : List (Nat × V × V)} {C : Ct} (h1 : σ[id]? = some (.it mid since seen since)) (h2 : σ[mid]? = some (.map es since)) (hb : ∀ e ∈ es, e.1 < since)
  (hend : (∀ e ∈ es, e.1 ∈ seen) → C (.tup [.b false]) σ) (hgo : ∀ e ∈ es, e.1 ∉ seen → C (.tup [.b true, e.2.1, e.2.2]) (σ.set id (.it mid since (seen ++ [e.1]) since))) : nxtK (.p id 0 0) σ C := by
 simp only [nxtK, h1, h2]
 exact ⟨trivial, trivial, trivial, trivial, hb, hend, hgo⟩
theorem ent_K {σ : List O} {id mid since stepped b : Nat} {seen : List Nat} {es : List (Nat × V × V)} {C : Ct} {e : Nat × V × V} (h1 : σ[id]? = some (.it mid since (seen ++ [b]) stepped)) (h2 : σ[mid]? = some (.map es stepped))
  (hf : es.find? (fun e => e.1 == b) = some e) (hC : C (.tup [e.2.1, e.2.2]) σ) : entC (.p id 0 0) σ C := by
 simp only [entC, entK, h1, h2, List.getLast?_append, List.getLast?_singleton, Option.some_or, hf]
 exact ⟨trivial, trivial, trivial, hC⟩
theorem erase_filter {n : Nat} {E : List Ent} {c : Nat} (h : MapOK n E c) {k : List Int} {j : Nat} (hj : E.findIdx? (fun e => e.2.1 == k) = some j) : E.eraseIdx j = E.filter fun e => !decide (e.2.1 = k) := by
 have hk := h.keys
 clear h
 induction E generalizing j with
 | nil => cases hj
 | cons x E ih =>
  rw [List.map_cons, List.nodup_cons] at hk
  rw [List.findIdx?_cons] at hj
  by_cases hx : x.2.1 = k
  ·rw [if_pos (by simp [hx])] at hj
   cases hj
   rw [List.eraseIdx_cons_zero, List.filter_cons_of_neg (by simp [hx])]
   symm
   rw [List.filter_eq_self]
   intro y hy
   have : y.2.1 ≠ k := fun e => hk.1 (List.mem_map.2 ⟨y, hy, by rw [e, hx]⟩)
   simp [this]
  ·rw [if_neg (by simp [hx])] at hj
   cases hf : E.findIdx? (fun e => e.2.1 == k) with
   | none => rw [hf] at hj; cases hj
   | some i =>
    rw [hf] at hj
    cases hj
    rw [List.eraseIdx_cons_succ, List.filter_cons_of_pos (by simp [hx]), ih hf hk.2]
theorem find_stamp {n : Nat} {E : List Ent} {c : Nat} (h : MapOK n E c) {e : Ent} (he : e ∈ E) : (mpV E).find? (fun x => x.1 == e.1) = some (e.1, kV e.2.1, e.2.2) := by
 have hs := h.stamps
 clear h
 induction E with
 | nil => cases he
 | cons x E ih =>
  rw [List.map_cons, List.nodup_cons] at hs
  unfold mpV at ih ⊢
  rw [List.map_cons]
  rcases List.mem_cons.1 he with rfl | he
  ·rw [List.find?_cons_of_pos (by simp)]
  ·have : x.1 ≠ e.1 := fun e' => hs.1 (List.mem_map.2 ⟨e, he, e'.symm⟩)
   rw [List.find?_cons_of_neg (by simpa using this)]
   exact ih he hs.2
theorem MapOK.filter {n : Nat} {E : List Ent} {c : Nat} (h : MapOK n E c) {p : Ent → Bool} : MapOK n (E.filter p) c := by
 have hs := List.filter_sublist (l := E) (p := p)
 exact ⟨h.n0, fun e he => h.len e (hs.subset he), h.keys.sublist (hs.map _), h.stamps.sublist (hs.map _), fun e he => h.lt e (hs.subset he)⟩
end Go.Ab
end
section
namespace Go.Ab
open Go Go.Proofs
theorem wrapu {x : Int} (h1 : 0 ≤ x) (h2 : x < 65536) : IntKind.u16.wrap x = x := by
 simp only [IntKind.wrap, IntKind.bits, IntKind.signed]
 simp
 omega
@[simp] theorem bits16 : IntKind.u16.bits = 16 := rfl
theorem ofInt_nat {s : Nat} (h : s < 65536) : (BitVec.ofInt 16 (s : Int)).toNat = s := by
 rw [BitVec.toNat_ofInt]
 omega
theorem and_nat {a b : Nat} (ha : a < 65536) (hb : b < 65536) : bitop .and .u16 (a : Int) (b : Int) = ((a &&& b : Nat) : Int) := by
 show IntKind.u16.wrap _ = _
 rw [BitVec.toNat_and, bits16, ofInt_nat ha, ofInt_nat hb]
 have := Nat.and_le_left (n := a) (m := b)
 rw [wrapu (by omega) (by omega)]
theorem or_nat {a b : Nat} (ha : a < 65536) (hb : b < 65536) : bitop .or .u16 (a : Int) (b : Int) = ((a ||| b : Nat) : Int) := by
 show IntKind.u16.wrap _ = _
 rw [BitVec.toNat_or, bits16, ofInt_nat ha, ofInt_nat hb]
 have : a ||| b < 2 ^ 16 := Nat.or_lt_two_pow ha hb
 rw [wrapu (by omega) (by omega)]
def less (a b : Nat) : Nat := a ^^^ (a &&& b)
theorem less_bit {a b i : Nat} : (less a b).testBit i = (a.testBit i && !b.testBit i) := by
 unfold less
 rw [Nat.testBit_xor, Nat.testBit_and]
 cases a.testBit i <;> cases b.testBit i <;> rfl
theorem less_le {a b : Nat} : less a b ≤ a := by
 have h : less a b = less a b &&& a := by
  apply Nat.eq_of_testBit_eq
  intro i
  rw [Nat.testBit_and, less_bit]
  cases a.testBit i <;> cases b.testBit i <;> rfl
 rw [h]
 exact Nat.and_le_right
theorem andNot_nat {a b : Nat} (ha : a < 65536) (hb : b < 65536) : bitop .andNot .u16 (a : Int) (b : Int) = ((less a b : Nat) : Int) := by
 show IntKind.u16.wrap _ = _
 have e : (BitVec.ofInt 16 (a : Int) &&& ~~~ BitVec.ofInt 16 (b : Int)).toNat = less a b := by
  apply Nat.eq_of_testBit_eq
  intro i
  rw [less_bit, BitVec.testBit_toNat, BitVec.getLsbD_and, BitVec.getLsbD_not, ← BitVec.testBit_toNat, ← BitVec.testBit_toNat, ofInt_nat ha, ofInt_nat hb]
  by_cases hi : i < 16
  ·simp [hi]
  ·have : a.testBit i = false := Nat.testBit_lt_two_pow (Nat.lt_of_lt_of_le (show a < 2 ^ 16 from ha) (Nat.pow_le_pow_right (by omega) (by omega)))
   simp [hi, this]
 rw [bits16, e]
 have := less_le (a := a) (b := b)
 rw [wrapu (by omega) (by omega)]
theorem shr_nat {s m : Nat} (hm : m ≤ 16) : (s : Int).fdiv (2 ^ (min m 16)) = ((s >>> m : Nat) : Int) := by
 rw [Nat.min_eq_left hm, Nat.shiftRight_eq_div_pow]
 have : ((2 : Int) ^ m) = ((2 ^ m : Nat) : Int) := by simp
 rw [this, Int.fdiv_eq_ediv_of_nonneg _ (Int.natCast_nonneg _)]
 exact (Int.natCast_ediv _ _).symm
theorem and_one {s : Nat} : s &&& 1 = (if s.testBit 0 then 1 else 0) := by
 rw [Nat.and_one_is_mod, Nat.testBit_zero]
 have := Nat.mod_two_eq_zero_or_one s
 by_cases h : s % 2 = 1
 ·simp [h]
 ·have h0 : s % 2 = 0 := by omega
  simp [h0]
theorem bit_is {s m : Nat} (hs : s < 65536) (hm : m ≤ 16) : bitop .and .u16 ((s : Int).fdiv (2 ^ (min m 16))) 1 = (if s.testBit m then 1 else 0) := by
 rw [shr_nat hm]
 have h1 : s >>> m < 65536 := by
  have := Nat.shiftRight_le s m
  omega
 have := and_nat (a := s >>> m) (b := 1) h1 (by omega)
 rw [show ((1 : Nat) : Int) = 1 from rfl] at this
 rw [this, and_one, Nat.testBit_shiftRight, Nat.add_zero]
 split <;> rfl
theorem shl_nat {m : Nat} (hm : m < 16) : IntKind.u16.wrap (1 * 2 ^ (min m 16)) = ((2 ^ m : Nat) : Int) := by
 rw [Nat.min_eq_left (by omega), Int.one_mul]
 have e : ((2 : Int) ^ m) = ((2 ^ m : Nat) : Int) := by simp
 have h : 2 ^ m < 2 ^ 16 := Nat.pow_lt_pow_right (by omega) hm
 rw [e]
 generalize 2 ^ m = p at h
 rw [wrapu (by omega) (by omega)]
theorem shl_nat' {m : Nat} (hm : m < 16) : IntKind.u16.wrap (2 ^ (min m 16)) = ((2 ^ m : Nat) : Int) := by
 rw [← shl_nat hm, Int.one_mul]
end Go.Ab
end
section
namespace Go.Ab
open Go Go.Proofs
abbrev Lg := Int × List Int × Bool
def lgV : List Lg → List V
 | [] => []
 | p :: r => .i .i64 p.1 :: sl p.2.1 p.2.2 :: lgV r
@[simp] theorem lgV_len : ∀ {l : List Lg}, (lgV l).length = l.length * 2
 | [] => rfl
 | p :: r => by simp [lgV, lgV_len (l := r)]; omega
theorem lgV_drop : ∀ {l : List Lg} {i : Nat}, (lgV l).drop (i * 2) = lgV (l.drop i)
 | [], i => by simp [lgV]
 | p :: r, 0 => by simp
 | p :: r, i + 1 => by
  rw [show (i + 1) * 2 = i * 2 + 1 + 1 by omega]
  simp only [lgV, List.drop_succ_cons]
  exact lgV_drop
theorem lgV_get {l : List Lg} {i : Nat} {p : Lg} (h : l[i]? = some p) : ((lgV l).drop (i * 2)).take 2 = [.i .i64 p.1, sl p.2.1 p.2.2] ∧ (lgV l)[i * 2]? = some (.i .i64 p.1) ∧ (lgV l)[i * 2 + 1]? = some (sl p.2.1 p.2.2) := by
 have hlt := (List.getElem?_eq_some_iff.1 h).1
 have hd : l.drop i = p :: l.drop (i + 1) := by
  rw [List.drop_eq_getElem_cons hlt]
  rw [List.getElem?_eq_getElem hlt] at h
  rw [Option.some.inj h]
 have e : (lgV l).drop (i * 2) = .i .i64 p.1 :: sl p.2.1 p.2.2 :: lgV (l.drop (i + 1)) := by rw [lgV_drop, hd]; rfl
 refine ⟨by rw [e]; rfl, ?_, ?_⟩
 ·have := congrArg (·[0]?) e
  simpa [List.getElem?_drop] using this
 ·have := congrArg (·[1]?) e
  simpa [List.getElem?_drop] using this
@[simp] theorem pure_lgV : ∀ {l : List Lg}, pureL (lgV l) = true
 | [] => rfl
 | p :: r => by simp [lgV, pure_lgV (l := r)]
abbrev slJ (l : List Lg) (f : Bool) : V := .ss (lgV l) l.length f
abbrev jamV (J : List Lg) (f : Bool) : V := .agg [slJ J f]
def isLF (N : Int) : Int → List Int → Bool
 | _, [] => true
 | nx, x :: r => fit nx (N - 1) x && isLF N (x + 1) r
def isL (N : Int) (l : List Int) : Bool := isLF N 0 l
theorem isLF_mem {N : Int} : ∀ {l : List Int} {nx : Int}, isLF N nx l = true → ∀ x ∈ l, nx ≤ x ∧ x < N
 | [], _, _ => by simp
 | y :: r, nx, h => by
  simp only [isLF, fit, Bool.and_eq_true, decide_eq_true_eq] at h
  obtain ⟨⟨h1, h2⟩, h3⟩ := h
  intro x hx
  rcases List.mem_cons.1 hx with rfl | hx
  ·omega
  ·have := isLF_mem h3 x hx; omega
def checkJ (J : List Lg) : Int :=
 if J.length < 1 ∨ 12 < J.length then 6 else if (J.any fun l => !fit 0 1 l.1) then 3 else if (J.any fun l => !isL J.length l.2.1) then 2 else 0
def setB (l : List Int) : Nat := l.foldl (fun s x => s ||| 2 ^ x.toNat) 0
def bl (s : Nat) : Nat → List Int
 | 0 => []
 | k + 1 => if s.testBit k then bl s k ++ [(k : Int)] else bl s k
theorem bl_len {s : Nat} : ∀ {k}, (bl s k).length ≤ k
 | 0 => by simp [bl]
 | k + 1 => by
  have := bl_len (s := s) (k := k)
  simp only [bl]; split
  ·rw [List.length_append]; simp; omega
  ·omega
theorem indexFuncJ {l : List Lg} {full : Bool} {g : FuncId} {first cap : List V} {p : Lg → Bool} (hg : ∀ x ∈ l, FSpec Tryz.prog g (first ++ [.agg [.i .i64 x.1, sl x.2.1 x.2.2]] ++ cap) [] (.b (p x)) []) (hl : (l.length : Int) < 1000000000) :
  FSpec Tryz.prog 101 [slJ l full, .f (.func g) first cap] [] (.i .i64 (match l.findIdx? p with | some i => (i : Int) | none => -1)) [] := by
 refine fn101.spec0 mixed noIt_ok ?_
 rw [ic101]
 refine ab_seq_k fun K1 h1 => ?_
 simp
 refine h1 _ _ _ ?_
 clear h1 K1
 refine ab_seq_k fun K2 h2 => ?_
 refine ab_seq_k fun K3 h3 => ?_
 simp
 refine h3 _ _ _ ?_
 clear h3 K3
 refine ab_block_k fun K4 h4 => ?_
 refine ab_loop_k (fun m env σ => ∃ i : Nat, i + m = l.length ∧ (∀ (j : Nat) (x : Lg), j < i → l[j]? = some x → p x = false) ∧ env = [(0, slJ l full), (1, .f (.func g) first cap), (7, .i .i64 l.length), (8, .i .i64 i)] ∧ σ = []) l.length ⟨0, by omega, by simp, by simp, rfl⟩ ?_
 rintro m env σ ⟨i, hi, hprev, rfl, rfl⟩ K5 h5
 rw [ic101_0]
 refine ab_seq_k fun K6 h6 => ?_
 simp
 refine h6 _ _ _ ?_
 clear h6 K6
 refine ab_seq_k fun K7 h7 => ?_
 refine ab_cond_of rfl (fun hc => ?_) (fun hc => ?_)
 ·have hlt : i < l.length := by simp at hc; omega
  have hget : l[i]? = some l[i] := List.getElem?_eq_getElem hlt
  obtain ⟨e1, -, -⟩ := lgV_get hget
  have hmem := List.getElem_mem hlt
  generalize hx : l[i] = x at *
  have hle : i * 2 + 2 ≤ l.length * 2 := by omega
  simp
  refine h7 _ _ _ ?_
  refine ab_seq_k fun K8 h8 => ?_
  refine ab_block_k fun K9 h9 => ?_
  refine ab_seq_k fun K10 h10 => ?_
  simp
  refine h10 _ _ _ ?_
  refine ab_seq_k fun K11 h11 => ?_
  simp [hlt, hle, e1]
  refine callK_of (by simpa using hg x hmem) ?_
  simp
  refine h11 _ _ _ ?_
  refine ab_cond_of rfl (fun hp => ?_) (fun hp => ?_)
  ·refine ab_seq_k fun K12 h12 => ?_
   simp
   refine h12 _ _ _ ?_
   have : l.findIdx? p = some i := by
    rw [List.findIdx?_eq_some_iff_getElem]
    exact ⟨hlt, by rw [hx]; exact hp, fun j hj => by have := hprev j _ hj (List.getElem?_eq_getElem (by omega)); simpa using this⟩
   simp [this]
   exact fin_of 1 (by simp [rs101])
  ·simp
   refine h9 _ _ _ ?_
   refine h8 _ _ _ ?_
   simp [wrap64 (x := (i : Int) + 1) (by omega) (by omega)]
   refine h5 _ _ _ (again (m - 1) (by omega) ⟨i + 1, by omega, fun j y hj hy => ?_, by simp, rfl⟩)
   by_cases hji : j = i
   ·subst hji; rw [hget] at hy; cases hy; exact hp
   ·exact hprev j y (by omega) hy
 ·have hlt : ¬ i < l.length := by simp at hc; omega
  simp
  refine h4 _ _ _ ?_
  refine h2 _ _ _ ?_
  refine ab_seq_k fun K8 h8 => ?_
  simp
  refine h8 _ _ _ ?_
  have : l.findIdx? p = none := by
   rw [List.findIdx?_eq_none_iff]
   intro x hx
   obtain ⟨j, hj⟩ := List.mem_iff_getElem?.1 hx
   have := (List.getElem?_eq_some_iff.1 hj).1
   exact hprev j x (by omega) hj
  simp [this]
  exact fin_of 1 (by simp [rs101])
theorem containsFuncJ {l : List Lg} {full : Bool} {g : FuncId} {first cap : List V} {p : Lg → Bool} (hg : ∀ x ∈ l, FSpec Tryz.prog g (first ++ [.agg [.i .i64 x.1, sl x.2.1 x.2.2]] ++ cap) [] (.b (p x)) []) (hl : (l.length : Int) < 1000000000) :
  FSpec Tryz.prog 70 [slJ l full, .f (.func g) first cap] [] (.b (l.any p)) [] := by
 refine fn70.spec0 mixed noIt_ok ?_
 rw [ic70]
 refine ab_seq_k fun K1 h1 => ?_
 simp
 refine h1 _ _ _ ?_
 refine ab_seq_k fun K2 h2 => ?_
 simp
 refine callK_of (indexFuncJ hg hl) ?_
 simp
 refine h2 _ _ _ ?_
 simp
 refine fin_of 1 ?_
 simp [rs70]
 cases h : l.findIdx? p with
 | none =>
  rw [List.findIdx?_eq_none_iff] at h
  have : l.any p = false := by rw [List.any_eq_false]; intro x hx; simp [h x hx]
  simpa using this
 | some i =>
  rw [List.findIdx?_eq_some_iff_getElem] at h
  obtain ⟨h1, h2, -⟩ := h
  have : l.any p = true := by rw [List.any_eq_true]; exact ⟨_, List.getElem_mem h1, h2⟩
  simpa using this
theorem has83 {s n : Nat} {σ : List O} (hs : s < 65536) (hn : n ≤ 16) : FSpec Tryz.prog 83 [.i .u16 s, .i .i64 n] σ (.b (s.testBit n)) σ := by
 refine FSpec.frame (σ := σ) ?_ rfl rfl
 refine fn83.spec0 mixed noIt_ok ?_
 rw [ic83]
 refine ab_seq_k fun K1 h1 => ?_
 simp
 refine h1 _ _ _ ?_
 clear h1 K1
 refine ab_seq_k fun K2 h2 => ?_
 have hb := bit_is hs hn
 simp
 rw [hb]
 refine h2 _ _ _ ?_
 simp
 refine fin_of 1 ?_
 simp [rs83]
theorem setB_snoc {l : List Int} {i : Nat} {x : Int} (h : l[i]? = some x) : setB (l.take (i + 1)) = setB (l.take i) ||| 2 ^ x.toNat := by
 unfold setB
 rw [List.take_add_one, h]
 simp [List.foldl_append]
theorem setB_lt {l : List Int} {k : Nat} (h : ∀ x ∈ l, 0 ≤ x ∧ x < k) : setB l < 2 ^ k := by
 have : ∀ (l : List Int) (s : Nat), s < 2 ^ k → (∀ x ∈ l, 0 ≤ x ∧ x < k) → l.foldl (fun s x => s ||| 2 ^ x.toNat) s < 2 ^ k := by
  intro l
  induction l with
  | nil => intro s h _; exact h
  | cons x l ih =>
   intro s hs hx
   refine ih _ (Nat.or_lt_two_pow hs ?_) (fun y hy => hx y (List.mem_cons_of_mem _ hy))
   have := hx x (List.mem_cons_self ..)
   exact Nat.pow_lt_pow_right (by omega) (by omega)
 exact this l 0 (Nat.two_pow_pos k) h
theorem setOf64 {l : List Int} {f : Bool} (h : ∀ x ∈ l, 0 ≤ x ∧ x < (12 : Nat)) (hl : l.length ≤ 1000000) : FSpec Tryz.prog 64 [sl l f] [] (.i .u16 (setB l)) [] := by
 refine fn64.spec0 mixed noIt_ok ?_
 rw [ic64]
 refine ab_seq_k fun K1 h1 => ?_
 simp
 refine h1 _ _ _ ?_
 clear h1 K1
 refine ab_seq_k fun K2 h2 => ?_
 simp
 refine h2 _ _ _ ?_
 clear h2 K2
 refine ab_seq_k fun K3 h3 => ?_
 refine ab_seq_k fun K4 h4 => ?_
 simp
 refine h4 _ _ _ ?_
 clear h4 K4
 refine ab_block_k fun K5 h5 => ?_
 refine ab_loop_k (fun m env σ => ∃ i : Nat, i + m = l.length ∧ env = [(3, .i .u16 (setB (l.take i))), (6, sl l f), (7, .i .i64 l.length), (8, .i .i64 i)] ∧ σ = []) l.length ⟨0, by omega, by simp [setB], rfl⟩ ?_
 rintro m env σ ⟨i, hi, rfl, rfl⟩ K6 h6
 rw [ic64_0]
 refine ab_seq_k fun K7 h7 => ?_
 simp
 refine h7 _ _ _ ?_
 clear h7 K7
 refine ab_seq_k fun K8 h8 => ?_
 refine ab_cond_of rfl (fun hc => ?_) (fun hc => ?_)
 ·have hlt : i < l.length := by simp at hc; omega
  obtain ⟨e1, e2, hm⟩ := getD_get hlt
  generalize l.getD i 0 = x at *
  obtain ⟨h1, h2⟩ := h x hm
  obtain ⟨n, rfl⟩ : ∃ n : Nat, x = n := ⟨x.toNat, by omega⟩
  have hb : setB (l.take i) < 2 ^ 12 := setB_lt (fun x hx => h x (List.mem_of_mem_take hx))
  have hn : n < 12 := by omega
  have hp : 2 ^ n < 2 ^ 12 := Nat.pow_lt_pow_right (by omega) hn
  have hs := setB_snoc e1
  rw [Int.toNat_natCast] at hs
  have e3 := shl_nat' (m := n) (by omega)
  have e4 := or_nat (a := setB (l.take i)) (b := 2 ^ n) (by omega) (by omega)
  generalize 2 ^ n = p at *
  simp
  refine h8 _ _ _ ?_
  clear h8 K8
  refine ab_seq_k fun K9 h9 => ?_
  refine ab_block_k fun K10 h10 => ?_
  refine ab_seq_k fun K11 h11 => ?_
  simp [hlt, e2]
  refine h11 _ _ _ ?_
  clear h11 K11
  simp [e3]
  rw [e4, ← hs]
  refine h10 _ _ _ (h9 _ _ _ ?_)
  simp [wrap64 (x := (i : Int) + 1) (by omega) (by omega)]
  exact h6 _ _ _ (again (m - 1) (by omega) ⟨i + 1, by omega, by simp, rfl⟩)
 ·have hlt : l.length ≤ i := by simp at hc; omega
  simp
  rw [List.take_of_length_le hlt]
  refine h5 _ _ _ (h3 _ _ _ ?_)
  refine ab_seq_k fun K12 h12 => ?_
  simp
  refine h12 _ _ _ ?_
  clear h12 K12
  simp
  exact fin_of 1 (by simp [rs64])
theorem list68 {s : Nat} {σ : List O} (hs : s < 65536) : FSpec Tryz.prog 68 [.i .u16 s] σ (sl (bl s 12) ((bl s 12).length == 0)) σ := by
 refine FSpec.frame (σ := σ) ?_ rfl (by simp)
 refine fn68.spec0 mixed noIt_ok ?_
 rw [ic68]
 refine ab_seq_k fun K1 h1 => ?_
 simp
 refine h1 _ _ _ ?_
 clear h1 K1
 refine ab_seq_k fun K2 h2 => ?_
 simp
 refine h2 _ _ _ ?_
 clear h2 K2
 refine ab_seq_k fun K3 h3 => ?_
 refine ab_seq_k fun K4 h4 => ?_
 simp
 refine h4 _ _ _ ?_
 clear h4 K4
 refine ab_block_k fun K5 h5 => ?_
 refine ab_loop_k (fun m env σ => ∃ (i : Nat) (v : V), i + m = 12 ∧ env = [(0, .i .u16 s), (3, v), (5, .i .i64 i)] ∧ Gr 0 1 σ v (bl s i).length (ints (bl s i))) 12 ⟨0, .ss [] 0 true, by omega, by simp, by simpa [bl, ints] using Gr.nil⟩ ?_
 rintro m env σ ⟨i, v, hi, rfl, hv⟩ K6 h6
 rw [ic68_0]
 refine ab_seq_k fun K7 h7 => ?_
 simp
 refine h7 _ _ _ ?_
 clear h7 K7
 refine ab_seq_k fun K8 h8 => ?_
 refine ab_cond_of rfl (fun hc => ?_) (fun hc => ?_)
 ·have hlt : i < 12 := by simp at hc; omega
  simp
  refine h8 _ _ _ ?_
  clear h8 K8
  refine ab_seq_k fun K9 h9 => ?_
  refine ab_block_k fun K10 h10 => ?_
  refine ab_seq_k fun K11 h11 => ?_
  simp
  refine h11 _ _ _ ?_
  clear h11 K11
  have hend : ∀ env σ v, get env 0 = .i .u16 s → get env 3 = v → get env 5 = .i .i64 i → Gr 0 1 σ v (bl s (i + 1)).length (ints (bl s (i + 1))) → K10 (some 0) env σ := by
   intro env σ v w0 w3 w5 hg
   refine h10 _ _ _ (h9 _ _ _ ?_)
   simp [w0, w3, w5, wrap64 (x := (i : Int) + 1) (by omega) (by omega)]
   exact h6 _ _ _ (again (m - 1) (by omega) ⟨i + 1, v, by omega, by simp, hg⟩)
  clear h9 h10 h6
  refine ab_seq_k fun K12 h12 => ?_
  simp
  refine callK_of (has83 hs (by omega)) ?_
  simp
  refine h12 _ _ _ ?_
  clear h12 K12
  have hbl := bl_len (s := s) (k := i)
  cases hb : s.testBit i with
  | false =>
   refine ab_cond_of rfl (fun h => by cases h) (fun _ => ?_)
   simp
   exact hend _ _ _ rfl rfl rfl (by simpa [bl, hb] using hv)
  | true =>
   refine ab_cond_of rfl (fun _ => ?_) (fun h => by cases h)
   simp
   refine appG hv (by omega) (by omega) (by omega) rfl ?_
   intro v' σ' hv' hgr
   simp
   exact hend _ _ _ rfl rfl rfl (by simpa [bl, hb, ints] using hv')
 ·have hlt : i = 12 := by simp at hc; omega
  subst hlt
  simp
  refine h5 _ _ _ (h3 _ _ _ ?_)
  refine ab_seq_k fun K13 h13 => ?_
  simp
  refine h13 _ _ _ ?_
  clear h13 K13
  simp
  refine fin_of 2 ?_
  simp [-frz, rs68]
  rw [frz_G hv (by simp)]
theorem isList73 {J : List Lg} {fJ : Bool} {l : List Int} {f : Bool} {σ : List O} (hJ : J.length ≤ 1000000) (hl : (l.length : Int) < 1000000000) : FSpec Tryz.prog 73 [jamV J fJ, sl l f] σ (.b (isL J.length l)) σ := by
 refine FSpec.frame (σ := σ) ?_ (by simp) rfl
 refine fn73.spec0 mixed noIt_ok ?_
 rw [ic73]
 refine ab_seq_k fun K1 h1 => ?_
 simp
 refine h1 _ _ _ ?_
 clear h1 K1
 refine ab_seq_k fun K2 h2 => ?_
 simp
 refine h2 _ _ _ ?_
 clear h2 K2
 refine ab_seq_k fun K3 h3 => ?_
 refine ab_seq_k fun K4 h4 => ?_
 simp
 refine h4 _ _ _ ?_
 clear h4 K4
 refine ab_block_k fun K5 h5 => ?_
 refine ab_loop_k (fun m env σ => ∃ (i : Nat) (nx : Int), i + m = l.length ∧ isL J.length l = isLF J.length nx (l.drop i) ∧ 0 ≤ nx ∧ nx ≤ J.length ∧ env = [(2, .p 0 0 0), (5, .i .i64 nx), (8, sl l f), (9, .i .i64 l.length), (10, .i .i64 i)] ∧ σ = [.row 0 [slJ J fJ]]) l.length ⟨0, 0, by omega, rfl, by omega, by omega, by simp, rfl⟩ ?_
 rintro m env σ ⟨i, nx, hi, hr, hn0, hn1, rfl, rfl⟩ K6 h6
 rw [ic73_0]
 refine ab_seq_k fun K7 h7 => ?_
 simp
 refine h7 _ _ _ ?_
 clear h7 K7
 refine ab_seq_k fun K8 h8 => ?_
 refine ab_cond_of rfl (fun hc => ?_) (fun hc => ?_)
 ·have hlt : i < l.length := by simp at hc; omega
  obtain ⟨e1, e2, hm⟩ := getD_get hlt
  rw [List.drop_eq_getElem_cons hlt, e2] at hr
  generalize l.getD i 0 = x at *
  simp only [isLF] at hr
  simp
  refine h8 _ _ _ ?_
  clear h8 K8
  refine ab_seq_k fun K9 h9 => ?_
  refine ab_block_k fun K10 h10 => ?_
  refine ab_seq_k fun K11 h11 => ?_
  simp [hlt, e2]
  refine h11 _ _ _ ?_
  clear h11 K11
  refine ab_seq_k fun K12 h12 => ?_
  refine ab_seq_k fun K13 h13 => ?_
  simp [wrap64 (x := (J.length : Int) - 1) (by omega) (by omega)]
  refine callK_of within0 ?_
  simp
  refine h13 _ _ _ ?_
  clear h13 K13
  cases hf : fit nx (J.length - 1) x with
  | false =>
   rw [hf] at hr
   refine ab_cond_of rfl (fun _ => ?_) (fun h => by cases h)
   refine ab_seq_k fun K14 h14 => ?_
   simp
   refine h14 _ _ _ ?_
   clear h14 K14
   simp
   refine fin_of 1 ?_
   simp [rs73, hr]
  | true =>
   rw [hf] at hr
   refine ab_cond_of rfl (fun h => by cases h) (fun _ => ?_)
   simp only [fit, Bool.and_eq_true, decide_eq_true_eq] at hf
   simp
   refine h12 _ _ _ ?_
   simp [wrap64 (x := x + 1) (by omega) (by omega)]
   refine h10 _ _ _ (h9 _ _ _ ?_)
   simp [wrap64 (x := (i : Int) + 1) (by omega) (by omega)]
   exact h6 _ _ _ (again (m - 1) (by omega) ⟨i + 1, x + 1, by omega, by simpa using hr, by omega, by omega, by simp, rfl⟩)
 ·have hlt : l.length ≤ i := by simp at hc; omega
  rw [List.drop_of_length_le hlt] at hr
  simp
  refine h5 _ _ _ (h3 _ _ _ ?_)
  refine ab_seq_k fun K15 h15 => ?_
  simp
  refine h15 _ _ _ ?_
  clear h15 K15
  simp
  refine fin_of 1 ?_
  simp [rs73, hr, isLF]
theorem fn71ok {x : Lg} : FSpec Tryz.prog 71 [.agg [.i .i64 x.1, sl x.2.1 x.2.2]] [] (.b (!fit 0 1 x.1)) [] := by
 refine fn71.spec0 mixed noIt_ok ?_
 rw [ic71]
 refine ab_seq_k fun K1 h1 => ?_
 simp
 refine h1 _ _ _ ?_
 clear h1 K1
 refine ab_seq_k fun K2 h2 => ?_
 simp
 refine callK_of within0 ?_
 simp
 refine h2 _ _ _ ?_
 simp
 exact fin_of 1 (by simp [rs71])
theorem fn72ok {J : List Lg} {fJ : Bool} {x : Lg} (hJ : J.length ≤ 1000000) (hl : (x.2.1.length : Int) < 1000000000) : FSpec Tryz.prog 72 [.agg [.i .i64 x.1, sl x.2.1 x.2.2], .sp [slJ J fJ] 0] [] (.b (!isL J.length x.2.1)) [] := by
 refine fn72.spec0 mixed noIt_ok ?_
 rw [ic72]
 refine ab_seq_k fun K1 h1 => ?_
 simp
 refine h1 _ _ _ ?_
 clear h1 K1
 refine ab_seq_k fun K2 h2 => ?_
 simp
 refine callK_of (isList73 hJ hl) ?_
 simp
 refine h2 _ _ _ ?_
 simp
 exact fin_of 1 (by simp [rs72])
theorem check23 {J : List Lg} {fJ : Bool} {σ : List O} (hJ : J.length ≤ 1000000) (hl : ∀ x ∈ J, (x.2.1.length : Int) < 1000000000) : FSpec Tryz.prog 23 [jamV J fJ] σ (.i .i64 (checkJ J)) σ := by
 refine FSpec.frame (σ := σ) ?_ (by simp) rfl
 refine fn23.spec0 mixed noIt_ok ?_
 rw [ic23]
 refine ab_seq_k fun K1 h1 => ?_
 simp
 refine h1 _ _ _ ?_
 clear h1 K1
 refine ab_seq_k fun K2 h2 => ?_
 refine ab_block_k fun K3 h3 => ?_
 refine ab_seq_k fun K4 h4 => ?_
 simp
 refine callK_of within0 ?_
 simp
 refine h4 _ _ _ ?_
 clear h4 K4
 cases hf : fit 1 12 (J.length : Int) with
 | false =>
  refine ab_cond_of rfl (fun _ => ?_) (fun h => by cases h)
  refine ab_seq_k fun K5 h5 => ?_
  simp
  refine h5 _ _ _ ?_
  clear h5 K5
  simp
  refine fin_of 1 ?_
  have hv : checkJ J = 6 := by
   unfold checkJ
   simp only [fit, Bool.and_eq_false_iff, decide_eq_false_iff_not] at hf
   rw [if_pos (by omega)]
  simp [rs23, hv]
 | true =>
  have hv0 : ¬ (J.length < 1 ∨ 12 < J.length) := by simp only [fit, Bool.and_eq_true, decide_eq_true_eq] at hf; omega
  refine ab_cond_of rfl (fun h => by cases h) (fun _ => ?_)
  refine ab_seq_k fun K6 h6 => ?_
  simp
  refine callK_of (FSpec.frozen 3 (v := .b (J.any fun l => !fit 0 1 l.1)) ?_ rfl) ?_
  ·simp
   exact containsFuncJ (g := 71) (first := []) (cap := []) (fun x _ => fn71ok) (by omega)
  simp
  refine h6 _ _ _ ?_
  clear h6 K6
  cases h1 : J.any (fun l => !fit 0 1 l.1) with
  | true =>
   refine ab_cond_of rfl (fun _ => ?_) (fun h => by cases h)
   refine ab_seq_k fun K7 h7 => ?_
   simp
   refine h7 _ _ _ ?_
   clear h7 K7
   simp
   refine fin_of 1 ?_
   have hv : checkJ J = 3 := by unfold checkJ; rw [if_neg hv0, h1]; rfl
   simp [rs23, hv]
  | false =>
   refine ab_cond_of rfl (fun h => by cases h) (fun _ => ?_)
   refine ab_seq_k fun K8 h8 => ?_
   simp
   refine callK_of (FSpec.frozen 3 (v := .b (J.any fun l => !isL J.length l.2.1)) ?_ rfl) ?_
   ·simp
    exact containsFuncJ (g := 72) (first := []) (cap := [.sp [slJ J fJ] 0]) (fun x hx => fn72ok hJ (hl x hx)) (by omega)
   simp
   refine h8 _ _ _ ?_
   clear h8 K8
   cases h2' : J.any (fun l => !isL J.length l.2.1) with
   | true =>
    refine ab_cond_of rfl (fun _ => ?_) (fun h => by cases h)
    refine ab_seq_k fun K9 h9 => ?_
    simp
    refine h9 _ _ _ ?_
    clear h9 K9
    simp
    refine fin_of 1 ?_
    have hv : checkJ J = 2 := by unfold checkJ; rw [if_neg hv0, h1, h2']; rfl
    simp [rs23, hv]
   | false =>
    refine ab_cond_of rfl (fun h => by cases h) (fun _ => ?_)
    simp
    refine h3 _ _ _ (h2 _ _ _ ?_)
    refine ab_seq_k fun K10 h10 => ?_
    simp
    refine h10 _ _ _ ?_
    clear h10 K10
    simp
    refine fin_of 1 ?_
    have hv : checkJ J = 0 := by unfold checkJ; rw [if_neg hv0, h1, h2']; rfl
    simp [rs23, hv]
end Go.Ab
end
section
namespace Go.Ab
open Go Go.Proofs
theorem ints_set {l : List Int} {i : Nat} {x : Int} : (ints l).set i (.i .i64 x) = ints (l.set i x) := by simp [ints, List.map_set]
def rowF (n : Nat) (f : Nat → Int) : List Int := (List.range n).map f
@[simp] theorem rowF_len {n f} : (rowF n f).length = n := by simp [rowF]
theorem rowF_get {n : Nat} {f : Nat → Int} {k : Nat} (h : k < n) : (rowF n f)[k]? = some (f k) := by simp [rowF, h]
@[simp] theorem rowF_at {n : Nat} {f : Nat → Int} {k : Nat} {h : k < (rowF n f).length} : (rowF n f)[k] = f k := by simp [rowF]
def upd (f : Nat → Int) (k : Nat) (x : Int) : Nat → Int := fun i => if i = k then x else f i
theorem rowF_set {n : Nat} {f : Nat → Int} {k : Nat} {x : Int} : (rowF n f).set k x = rowF n (upd f k x) := by
 apply List.ext_getElem?
 intro i
 rw [List.getElem?_set]
 by_cases hi : i < n
 ·rw [rowF_get hi, rowF_get hi]
  unfold upd
  by_cases h : k = i
  ·subst h; simp [hi]
  ·rw [if_neg h, if_neg (fun e => h e.symm)]
 ·have e1 : (rowF n f)[i]? = none := by rw [List.getElem?_eq_none_iff]; simp; omega
  have e2 : (rowF n (upd f k x))[i]? = none := by rw [List.getElem?_eq_none_iff]; simp; omega
  rw [e1, e2]
  split <;> simp
  omega
theorem rowF_congr {n : Nat} {f g : Nat → Int} (h : ∀ i, i < n → f i = g i) : rowF n f = rowF n g := by
 unfold rowF
 exact List.map_congr_left fun i hi => h i (List.mem_range.1 hi)
theorem rowF_inj {n : Nat} {f g : Nat → Int} : rowF n f = rowF n g ↔ ∀ i, i < n → f i = g i := by
 refine ⟨fun h i hi => ?_, rowF_congr⟩
 have := congrArg (·[i]?) h
 simp only [rowF_get hi] at this
 exact Option.some.inj this
def us (B : List Nat) : List V := B.map fun (n : Nat) => V.i .u16 (n : Int)
@[simp] theorem us_len {B : List Nat} : (us B).length = B.length := by simp [us]
@[simp] theorem pure_us {B : List Nat} : pureL (us B) = true := by
 induction B with
 | nil => rfl
 | cons a l ih => simp [us] at ih ⊢; exact ih
@[simp high] theorem get_us {B : List Nat} {i : Nat} : (us B)[i]? = B[i]?.map (fun (n : Nat) => V.i .u16 (n : Int)) := by simp [us]
abbrev hpC (J : List Lg) (fJ : Bool) (b st : V) : List V := [slJ J fJ, b, st]
abbrev hpV (J : List Lg) (fJ : Bool) (B : List Nat) (fb : Bool) (st : V) : V := .sp (hpC J fJ (.ss (us B) B.length fb) st) 0
def kd (J : List Lg) (n : Nat) : Int := (J.getD n (0, [], true)).1
def frB (J : List Lg) (B : List Nat) (n now : Nat) : Bool := if kd J n = 0 then decide (less (B.getD n 0) now = 0) else decide (B.getD n 0 &&& now ≠ 0)
def SmallB (J : List Lg) (B : List Nat) : Prop := B.length = J.length ∧ ∀ x ∈ B, x < 65536
theorem SmallB.get {J B} (h : SmallB J B) {n : Nat} (hn : n < J.length) : B[n]? = some (B.getD n 0) ∧ B.getD n 0 < 65536 := by
 have h1 : n < B.length := by rw [h.1]; exact hn
 have e : B[n]? = some (B.getD n 0) := by rw [List.getD_eq_getElem?_getD, List.getElem?_eq_getElem h1]; rfl
 exact ⟨e, h.2 _ (List.mem_of_getElem? e)⟩
theorem kd_get {J : List Lg} {n : Nat} (hn : n < J.length) : ∃ p, J[n]? = some p ∧ p.1 = kd J n := by
 refine ⟨J[n], List.getElem?_eq_getElem hn, ?_⟩
 unfold kd
 rw [List.getD_eq_getElem?_getD, List.getElem?_eq_getElem hn]
 rfl
theorem free97 {J : List Lg} {fJ fb : Bool} {B : List Nat} {st : V} {n now : Nat} {σ : List O} (hB : SmallB J B) (hn : n < J.length) (hN : J.length ≤ 1000000) (hnow : now < 65536) (hst : st.pure = true) :
  FSpec Tryz.prog 97 [hpV J fJ B fb st, .i .i64 n, .i .u16 now] σ (.b (frB J B n now)) σ := by
 refine FSpec.frame (σ := σ) ?_ (by simp [hst]) rfl
 obtain ⟨b1, b2⟩ := hB.get hn
 obtain ⟨p, hp, hk⟩ := kd_get hn
 obtain ⟨-, p1, -⟩ := lgV_get hp
 obtain ⟨hp1, p1'⟩ := List.getElem?_eq_some_iff.1 p1
 obtain ⟨hb', b1'⟩ := List.getElem?_eq_some_iff.1 b1
 have hlen := hB.1
 have hle : n * 2 + 2 ≤ J.length * 2 := by omega
 have hf : frB J B n now = if kd J n = 0 then decide (less (B.getD n 0) now = 0) else decide (B.getD n 0 &&& now ≠ 0) := rfl
 rw [hk] at p1 p1'
 generalize B.getD n 0 = b at *
 generalize kd J n = k at *
 refine fn97.spec0 mixed noIt_ok ?_
 rw [ic97]
 refine ab_seq_k fun K1 h1 => ?_
 simp
 refine h1 _ _ _ ?_
 clear h1 K1
 refine ab_seq_k fun K2 h2 => ?_
 refine ab_seq_k fun K3 h3 => ?_
 simp [hn, hle, p1, p1']
 refine h3 _ _ _ ?_
 clear h3 K3
 by_cases h0 : k = 0
 ·refine ab_cond_of rfl (fun _ => ?_) (fun h => by simp [h0] at h)
  rw [if_pos h0] at hf
  refine ab_seq_k fun K4 h4 => ?_
  have e := andNot_nat (a := b) (b := now) b2 hnow
  simp [hlen, hn, b1, b1']
  rw [e]
  refine h4 _ _ _ ?_
  simp
  refine fin_of 1 ?_
  simp [rs97, hf]
 ·refine ab_cond_of rfl (fun h => absurd (of_decide_eq_true h) h0) (fun _ => ?_)
  rw [if_neg h0] at hf
  simp
  refine h2 _ _ _ ?_
  refine ab_seq_k fun K4 h4 => ?_
  have e := and_nat (a := b) (b := now) b2 hnow
  simp [hlen, hn, b1, b1']
  rw [e]
  refine h4 _ _ _ ?_
  simp
  refine fin_of 1 ?_
  simp [rs97, hf]
section
variable (J : List Lg) (B : List Nat)
def newTo (now : Nat) : Nat → Nat
 | 0 => now
 | n + 1 => if !now.testBit n && frB J B n now then newTo now n ||| 2 ^ n else newTo now n
def gk (keys : Nat) : Nat → Nat
 | 0 => keys
 | r + 1 => newTo J B (gk keys r) J.length
def wr (keys : Nat) : Nat → Nat → Int
 | 0, n => if n < J.length ∧ keys.testBit n = false then -1 else 0
 | r + 1, n => if n < J.length ∧ (!(gk J B keys r).testBit n && frB J B n (gk J B keys r)) = true then (r : Int) + 1 else wr keys r n
end
variable {J : List Lg} {B : List Nat} {fJ fb : Bool} {st : V}
theorem newTo_bit {now : Nat} : ∀ {n j : Nat}, (newTo J B now n).testBit j = (now.testBit j || (decide (j < n) && frB J B j now))
 | 0, j => by simp [newTo]
 | n + 1, j => by
  have ih := newTo_bit (now := now) (n := n) (j := j)
  unfold newTo
  by_cases hj : j = n
  ·subst hj
   split
   ·rename_i h
    rw [Nat.testBit_or, Nat.testBit_two_pow, ih]
    simp at h
    simp [h]
   ·rename_i h
    rw [ih]
    simp at h ⊢
    intro h2
    cases h3 : now.testBit j with
    | true => rfl
    | false => rw [h h3] at h2; cases h2
  ·have h1 : decide (j < n + 1) = decide (j < n) := by
    by_cases h : j < n
    ·simp [h]; omega
    ·simp [h]; omega
   split
   ·rw [Nat.testBit_or, Nat.testBit_two_pow, ih, h1]
    have h2 : decide (n = j) = false := decide_eq_false (fun e => hj e.symm)
    rw [h2, Bool.or_false]
   ·rw [ih, h1]
theorem newTo_lt {now : Nat} (h : now < 65536) : ∀ {n : Nat}, n ≤ 16 → newTo J B now n < 65536
 | 0, _ => h
 | n + 1, hn => by
  have ih := newTo_lt h (n := n) (by omega)
  unfold newTo
  split
  ·have hp : 2 ^ n < 2 ^ 16 := Nat.pow_lt_pow_right (by omega) (by omega)
   exact Nat.or_lt_two_pow (n := 16) ih hp
  ·exact ih
theorem gk_lt {keys : Nat} (h : keys < 65536) (hN : J.length ≤ 16) : ∀ {r : Nat}, gk J B keys r < 65536
 | 0 => h
 | r + 1 => newTo_lt (gk_lt h hN) hN
def cntN (s : Nat) : Nat → Nat
 | 0 => 0
 | n + 1 => cntN s n + (if s.testBit n then 0 else 1)
theorem cntN_le {s : Nat} : ∀ {n}, cntN s n ≤ n
 | 0 => Nat.le_refl _
 | n + 1 => by have := cntN_le (s := s) (n := n); simp only [cntN]; split <;> omega
theorem cntN_mono {s t : Nat} (h : ∀ j, s.testBit j = true → t.testBit j = true) : ∀ {n}, cntN t n ≤ cntN s n
 | 0 => Nat.le_refl _
 | n + 1 => by
  have ih := cntN_mono h (n := n)
  have := h n
  simp only [cntN]
  cases hs : s.testBit n <;> cases ht : t.testBit n <;> simp_all
  omega
theorem cntN_lt {s t : Nat} (h : ∀ j, s.testBit j = true → t.testBit j = true) : ∀ {n}, (∃ j, j < n ∧ s.testBit j = false ∧ t.testBit j = true) → cntN t n < cntN s n
 | 0, ⟨j, hj, _⟩ => by omega
 | n + 1, ⟨j, hj, h1, h2⟩ => by
  have hm := cntN_mono h (n := n)
  by_cases hjn : j = n
  ·subst hjn
   simp only [cntN, h1, h2]
   simp; omega
  ·have ih := cntN_lt h (n := n) ⟨j, by omega, h1, h2⟩
   have := h n
   simp only [cntN]
   cases hs : s.testBit n <;> cases ht : t.testBit n <;> simp_all
   omega
theorem gk_same {keys r : Nat} (h : gk J B keys (r + 1) = gk J B keys r) : ∀ d, gk J B keys (r + d) = gk J B keys r
 | 0 => rfl
 | d + 1 => by
  have ih := gk_same h d
  show newTo J B (gk J B keys (r + d)) J.length = _
  rw [ih]
  exact h
theorem wr_same {keys r : Nat} (h : gk J B keys (r + 1) = gk J B keys r) : ∀ d n, wr J B keys (r + d) n = wr J B keys r n
 | 0, n => rfl
 | d + 1, n => by
  have ih := wr_same h d n
  have hg := gk_same h d
  show (if n < J.length ∧ (!(gk J B keys (r + d)).testBit n && frB J B n (gk J B keys (r + d))) = true then (((r + d : Nat) : Int) + 1) else wr J B keys (r + d) n) = _
  rw [hg, ih, if_neg]
  rintro ⟨h1, h2⟩
  have h3 : (gk J B keys (r + 1)).testBit n = true := by
   show (newTo J B (gk J B keys r) J.length).testBit n = true
   rw [newTo_bit]
   simp at h2
   simp [h1, h2]
  rw [h] at h3
  simp [h3] at h2
theorem gk_done {keys r : Nat} (h : ∀ n, n < J.length → (!(gk J B keys r).testBit n && frB J B n (gk J B keys r)) = false) : gk J B keys (r + 1) = gk J B keys r := by
 apply Nat.eq_of_testBit_eq
 intro j
 show (newTo J B (gk J B keys r) J.length).testBit j = _
 rw [newTo_bit]
 by_cases hj : j < J.length
 ·have := h j hj
  cases h1 : (gk J B keys r).testBit j
  ·rw [h1] at this
   simp at this
   simp [this]
  ·simp
 ·simp [hj]
theorem wr_b {keys : Nat} : ∀ {r n : Nat}, -1 ≤ wr J B keys r n ∧ wr J B keys r n ≤ r
 | 0, n => by simp only [wr]; split <;> simp
 | r + 1, n => by
  have := wr_b (keys := keys) (r := r) (n := n)
  simp only [wr]
  split <;> omega
end Go.Ab
end
section
namespace Go.Ab
open Go Go.Proofs
variable {J : List Lg} {B : List Nat} {fJ fb : Bool} {st : V}
theorem app_get {σ g : List O} {i : Nat} {o : O} (h : σ[i]? = some o) : (σ ++ g)[i]? = some o := by
 rw [List.getElem?_append_left (List.getElem?_eq_some_iff.1 h).1]; exact h
theorem wr_step {keys r : Nat} {n : Nat} : wr J B keys (r + 1) n = if n < J.length ∧ (!(gk J B keys r).testBit n && frB J B n (gk J B keys r)) = true then (r : Int) + 1 else wr J B keys r n := rfl
def midW (J : List Lg) (B : List Nat) (keys r i : Nat) : Nat → Int := fun j => if j < i then wr J B keys (r + 1) j else wr J B keys r j
theorem midW_set {keys r i : Nat} : rowF 12 (upd (midW J B keys r i) i (wr J B keys (r + 1) i)) = rowF 12 (midW J B keys r (i + 1)) := by
 refine rowF_congr fun j _ => ?_
 unfold upd midW
 by_cases h : j = i
 ·subst h; simp
 ·rw [if_neg h]
  by_cases h2 : j < i
  ·rw [if_pos h2, if_pos (by omega)]
  ·rw [if_neg h2, if_neg (by omega)]
theorem midW_same {keys r i : Nat} (h : wr J B keys (r + 1) i = wr J B keys r i) : rowF 12 (midW J B keys r i) = rowF 12 (midW J B keys r (i + 1)) := by
 refine rowF_congr fun j _ => ?_
 unfold midW
 by_cases h2 : j < i
 ·rw [if_pos h2, if_pos (by omega)]
 ·rw [if_neg h2]
  by_cases h3 : j = i
  ·subst h3; simp [h]
  ·rw [if_neg (by omega)]
theorem round_same {keys r : Nat} (hN : J.length ≤ 12) (h : rowF 12 (wr J B keys (r + 1)) = rowF 12 (wr J B keys r)) : gk J B keys (r + 1) = gk J B keys r := by
 refine gk_done fun n hn => ?_
 have h1 := rowF_inj.1 h n (by omega)
 rw [wr_step] at h1
 have h2 := wr_b (J := J) (B := B) (keys := keys) (r := r) (n := n)
 cases hc : (!(gk J B keys r).testBit n && frB J B n (gk J B keys r)) with
 | false => rfl
 | true =>
  rw [if_pos ⟨hn, hc⟩] at h1
  omega
theorem round_more {keys r : Nat} (h : rowF 12 (wr J B keys (r + 1)) ≠ rowF 12 (wr J B keys r)) : cntN (gk J B keys (r + 1)) J.length < cntN (gk J B keys r) J.length := by
 have hmono : ∀ j, (gk J B keys r).testBit j = true → (gk J B keys (r + 1)).testBit j = true := fun j hj => by
  show (newTo J B (gk J B keys r) J.length).testBit j = true
  rw [newTo_bit, hj]; rfl
 refine cntN_lt hmono ?_
 false_or_by_contra
 rename_i hno
 refine h (rowF_congr fun j _ => ?_)
 rw [wr_step, if_neg]
 rintro ⟨h1, h2⟩
 refine hno ⟨j, h1, ?_, ?_⟩
 ·simp at h2; exact h2.1
 ·show (newTo J B (gk J B keys r) J.length).testBit j = true
  rw [newTo_bit]
  simp at h2
  simp [h1, h2]
theorem waves63 {keys : Nat} {σ : List O} (hB : SmallB J B) (hN : J.length ≤ 12) (hk : keys < 65536) (hst : st.pure = true) :
  FSpec Tryz.prog 63 [hpV J fJ B fb st, .i .u16 keys] σ (.agg (ints (rowF 12 (wr J B keys J.length)))) σ := by
 refine FSpec.frame (σ := σ) ?_ (by simp [hst]) (by simp)
 refine fn63.spec0 mixed noIt_ok ?_
 rw [ic63]
 have ez : List.replicate 12 (V.i .i64 0) = ints (rowF 12 (fun _ => 0)) := rfl
 have ez2 : rep 12 [V.i .i64 0] = ints (rowF 12 (fun _ => 0)) := rfl
 refine ab_seq_k fun K1 h1 => ?_
 simp [-List.reduceReplicate, ez]
 refine h1 _ _ _ ?_
 clear h1 K1
 refine ab_seq_k fun K2 h2 => ?_
 simp [-List.reduceReplicate, ez]
 refine h2 _ _ _ ?_
 clear h2 K2
 refine ab_seq_k fun K3 h3 => ?_
 simp [-List.reduceReplicate, ez]
 refine h3 _ _ _ ?_
 clear h3 K3
 rw [show rep 12 [V.i .i64 0] ++ List.drop (rep 12 [V.i .i64 0]).length (ints (rowF 12 fun _ => 0)) = ints (rowF 12 fun _ => 0) from rfl]
 refine ab_seq_k fun K4 h4 => ?_
 refine ab_seq_k fun K5 h5 => ?_
 simp
 refine h5 _ _ _ ?_
 clear h5 K5
 refine ab_block_k fun K6 h6 => ?_
 refine ab_loop_k (fun m env σ => ∃ i : Nat, i + m = J.length ∧ env = [(0, hpV J fJ B fb st), (1, .i .u16 keys), (4, .p 0 0 0), (5, .p 1 0 0), (19, .i .i64 J.length), (20, .i .i64 i)] ∧ σ[0]? = some (.row 0 (ints (rowF 12 fun _ => 0))) ∧ σ[1]? = some (.row 0 (ints (rowF 12 fun j => if j < i then wr J B keys 0 j else 0)))) J.length ⟨0, by omega, by simp, rfl, by simp⟩ ?_
 rintro m env σ ⟨i, hi, rfl, s0, s1⟩ K7 h7
 rw [ic63_0]
 refine ab_seq_k fun K8 h8 => ?_
 simp
 refine h8 _ _ _ ?_
 clear h8 K8
 refine ab_seq_k fun K9 h9 => ?_
 refine ab_cond_of rfl (fun hc => ?_) (fun hc => ?_)
 ·have hil : i < J.length := by simpa using hc
  simp
  refine h9 _ _ _ ?_
  clear h9 K9
  refine ab_seq_k fun K10 h10 => ?_
  refine ab_block_k fun K11 h11 => ?_
  refine ab_seq_k fun K12 h12 => ?_
  simp
  refine h12 _ _ _ ?_
  clear h12 K12
  have hend : ∀ env σ, get env 0 = hpV J fJ B fb st → get env 1 = .i .u16 keys → get env 4 = .p 0 0 0 → get env 5 = .p 1 0 0 → get env 19 = .i .i64 J.length → get env 20 = .i .i64 i → σ[0]? = some (.row 0 (ints (rowF 12 fun _ => 0))) → σ[1]? = some (.row 0 (ints (rowF 12 fun j => if j < i + 1 then wr J B keys 0 j else 0))) → K11 (some 0) env σ := by
   intro env σ w0 w1 w4 w5 w19 w20 a0 a1
   refine h11 _ _ _ (h10 _ _ _ ?_)
   simp [w0, w1, w4, w5, w19, w20, wrap64 (x := (i : Int) + 1) (by omega) (by omega)]
   exact h7 _ _ _ (again (m - 1) (by omega) ⟨i + 1, by omega, by simp, a0, a1⟩)
  clear h10 h11 h7
  refine ab_seq_k fun K13 h13 => ?_
  simp
  refine callK_of (has83 hk (by omega)) ?_
  simp
  refine h13 _ _ _ ?_
  clear h13 K13
  cases hb : keys.testBit i with
  | false =>
   refine ab_cond_of rfl (fun _ => ?_) (fun h => by cases h)
   have hi12 : i < 12 := by omega
   have hw : wr J B keys 0 i = -1 := by simp [wr, hil, hb]
   have hset : rowF 12 (upd (fun j => if j < i then wr J B keys 0 j else 0) i (-1)) = rowF 12 (fun j => if j < i + 1 then wr J B keys 0 j else 0) := by
    refine rowF_congr fun j _ => ?_
    unfold upd
    by_cases h : j = i
    ·subst h; simp [hw]
    ·rw [if_neg h]
     show (if j < i then wr J B keys 0 j else 0) = _
     by_cases h2 : j < i
     ·rw [if_pos h2, if_pos (by omega)]
     ·rw [if_neg h2, if_neg (by omega)]
   generalize hF : (fun j => if j < i then wr J B keys 0 j else (0 : Int)) = F at *
   obtain ⟨hs1, s1'⟩ := List.getElem?_eq_some_iff.1 s1
   simp [s1, s1', hi12]
   rw [ints_set, rowF_set, hset]
   exact ⟨by omega, hend _ _ rfl rfl rfl rfl rfl rfl (by rw [List.getElem?_set_ne (by omega)]; exact s0) (List.getElem?_set_self hs1)⟩
  | true =>
   refine ab_cond_of rfl (fun h => by cases h) (fun _ => ?_)
   simp
   refine hend _ _ rfl rfl rfl rfl rfl rfl s0 ?_
   rw [s1]
   have : rowF 12 (fun j => if j < i then wr J B keys 0 j else 0) = rowF 12 (fun j => if j < i + 1 then wr J B keys 0 j else 0) := by
    refine rowF_congr fun j _ => ?_
    have hw : wr J B keys 0 i = 0 := by simp [wr, hb]
    by_cases h2 : j < i
    ·rw [if_pos h2, if_pos (by omega)]
    ·rw [if_neg h2]
     by_cases h : j = i
     ·subst h; simp [hw]
     ·rw [if_neg (by omega)]
   rw [this]
 ·have hil : i = J.length := by simp at hc; omega
  subst hil
  have hw0 : rowF 12 (fun j => if j < J.length then wr J B keys 0 j else 0) = rowF 12 (wr J B keys 0) := by
   refine rowF_congr fun j _ => ?_
   by_cases h : j < J.length
   ·rw [if_pos h]
   ·rw [if_neg h]; simp [wr, h]
  rw [hw0] at s1
  clear hw0
  simp
  refine h6 _ _ _ (h4 _ _ _ ?_)
  clear h4 h6 h7 h9 K4 K6 K7 K9
  refine ab_seq_k fun K20 h20 => ?_
  simp
  refine h20 _ _ _ ?_
  clear h20 K20
  refine ab_seq_k fun K21 h21 => ?_
  simp
  refine h21 _ _ _ ?_
  clear h21 K21
  refine ab_seq_k fun K22 h22 => ?_
  simp
  refine h22 _ _ _ ?_
  clear h22 K22
  have hres : ∀ r, r ≤ J.length → gk J B keys (r + 1) = gk J B keys r → rowF 12 (wr J B keys (r + 1)) = rowF 12 (wr J B keys J.length) := by
   intro r hr hg
   refine rowF_congr fun j _ => ?_
   have h1 := wr_same hg 1 j
   have h2 := wr_same hg (J.length - r) j
   rw [show r + (J.length - r) = J.length by omega] at h2
   rw [h1, h2]
  refine ab_block_k fun K23 h23 => ?_
  refine ab_loop_k (fun m env σ => ∃ r : Nat, m + r = J.length + 1 ∧ r + cntN (gk J B keys r) J.length ≤ J.length ∧ env = [(0, hpV J fJ B fb st), (4, .p 0 0 0), (5, .p 1 0 0), (7, .f (.func 97) [hpV J fJ B fb st] []), (8, .i .u16 (gk J B keys r)), (9, .i .i64 ((r : Int) + 1))] ∧ σ[0]? = some (.row 0 (ints (rowF 12 fun _ => 0))) ∧ σ[1]? = some (.row 0 (ints (rowF 12 (wr J B keys r))))) (J.length + 1)
   ⟨0, by omega, by have := cntN_le (s := gk J B keys 0) (n := J.length); omega, by simp [gk], s0, s1⟩ ?_
  clear s0 s1 σ
  rintro m env σ ⟨r, hm, hcnt, rfl, s0, s1⟩ K24 h24
  have hglt := gk_lt (B := B) (r := r) hk (by omega : J.length ≤ 16)
  obtain ⟨hs1, s1'⟩ := List.getElem?_eq_some_iff.1 s1
  obtain ⟨hs0, s0'⟩ := List.getElem?_eq_some_iff.1 s0
  rw [ic63_2]
  refine ab_seq_k fun K25 h25 => ?_
  refine ab_block_k fun K26 h26 => ?_
  refine ab_seq_k fun K27 h27 => ?_
  simp [-List.reduceReplicate, ez, s1, s1']
  refine h27 _ _ _ ?_
  clear h27 K27
  have hspl : splice (ints (rowF 12 fun _ => 0)) 0 (ints (rowF 12 (wr J B keys r))) = ints (rowF 12 (wr J B keys r)) := rfl
  refine ab_seq_k fun K28 h28 => ?_
  refine ab_seq_k fun K29 h29 => ?_
  simp
  refine h29 _ _ _ ?_
  clear h29 K29
  refine ab_block_k fun K30 h30 => ?_
  rw [show List.take 12 (ints (rowF 12 (wr J B keys r))) ++ List.drop 12 (ints (rowF 12 fun _ => 0)) = ints (rowF 12 (midW J B keys r 0)) from rfl]
  have hm0 : rowF 12 (wr J B keys r) = rowF 12 (midW J B keys r 0) := rfl
  rw [hm0] at s1
  have t0 := app_get (g := [O.row 0 (ints (rowF 12 (midW J B keys r 0)))]) s0
  have t1 := app_get (g := [O.row 0 (ints (rowF 12 (midW J B keys r 0)))]) s1
  have t2 : (σ ++ [O.row 0 (ints (rowF 12 (midW J B keys r 0)))])[σ.length]? = some (O.row 0 (ints (rowF 12 (wr J B keys r)))) := by simp; rfl
  have hL : 2 ≤ σ.length := by omega
  clear s0' s1' hs0 hs1
  generalize hgk : gk J B keys r = now at *
  generalize σ ++ [O.row 0 (ints (rowF 12 (midW J B keys r 0)))] = U at *
  generalize σ.length = L at *
  clear s0 s1 σ
  refine ab_loop_k (fun m2 env σ => ∃ i : Nat, i + m2 = J.length ∧ env = [(0, hpV J fJ B fb st), (4, .p 0 0 0), (5, .p 1 0 0), (7, .f (.func 97) [hpV J fJ B fb st] []), (8, .i .u16 (newTo J B now i)), (9, .i .i64 ((r : Int) + 1)), (10, .p L 0 0), (11, .i .u16 now), (42, .i .i64 J.length), (43, .i .i64 i)] ∧ σ[0]? = some (.row 0 (ints (rowF 12 fun _ => 0))) ∧ σ[1]? = some (.row 0 (ints (rowF 12 (midW J B keys r i)))) ∧ σ[L]? = some (.row 0 (ints (rowF 12 (wr J B keys r))))) J.length
   ⟨0, by omega, by simp [newTo], t0, t1, t2⟩ ?_
  clear t0 t1 t2 U
  rintro m2 env σ ⟨i, hi, rfl, t0, t1, t2⟩ K31 h31
  obtain ⟨ht1, t1'⟩ := List.getElem?_eq_some_iff.1 t1
  rw [ic63_1]
  refine ab_seq_k fun K32 h32 => ?_
  simp
  refine h32 _ _ _ ?_
  clear h32 K32
  refine ab_seq_k fun K33 h33 => ?_
  refine ab_cond_of rfl (fun hc => ?_) (fun hc => ?_)
  ·have hil : i < J.length := by simpa using hc
   simp
   refine h33 _ _ _ ?_
   clear h33 K33
   refine ab_seq_k fun K34 h34 => ?_
   refine ab_block_k fun K35 h35 => ?_
   refine ab_seq_k fun K36 h36 => ?_
   simp
   refine h36 _ _ _ ?_
   clear h36 K36
   have hend : ∀ env σ, get env 0 = hpV J fJ B fb st → get env 4 = .p 0 0 0 → get env 5 = .p 1 0 0 → get env 7 = .f (.func 97) [hpV J fJ B fb st] [] → get env 8 = .i .u16 (newTo J B now (i + 1)) → get env 9 = .i .i64 ((r : Int) + 1) → get env 10 = .p L 0 0 → get env 11 = .i .u16 now → get env 42 = .i .i64 J.length → get env 43 = .i .i64 i → σ[0]? = some (.row 0 (ints (rowF 12 fun _ => 0))) → σ[1]? = some (.row 0 (ints (rowF 12 (midW J B keys r (i + 1))))) → σ[L]? = some (.row 0 (ints (rowF 12 (wr J B keys r)))) → K35 (some 0) env σ := by
    intro env σ w0 w4 w5 w7 w8 w9 w10 w11 w42 w43 a0 a1 a2
    refine h35 _ _ _ (h34 _ _ _ ?_)
    simp [w0, w4, w5, w7, w8, w9, w10, w11, w42, w43, wrap64 (x := (i : Int) + 1) (by omega) (by omega)]
    exact h31 _ _ _ (again (m2 - 1) (by omega) ⟨i + 1, by omega, by simp, a0, a1, a2⟩)
   clear h34 h35 h31
   have hnt : newTo J B now i < 65536 := newTo_lt hglt (by omega)
   have hbit : (newTo J B now i).testBit i = now.testBit i := by rw [newTo_bit]; simp
   have hnx : newTo J B now (i + 1) = if !now.testBit i && frB J B i now then newTo J B now i ||| 2 ^ i else newTo J B now i := rfl
   have hws : wr J B keys (r + 1) i = if i < J.length ∧ (!now.testBit i && frB J B i now) = true then (r : Int) + 1 else wr J B keys r i := by rw [wr_step, hgk]
   refine ab_seq_k fun K37 h37 => ?_
   simp
   refine callK_of (has83 hnt (by omega)) ?_
   rw [hbit]
   cases hb : now.testBit i with
   | true =>
    rw [hb] at hnx hws
    simp
    refine h37 _ _ _ ?_
    refine ab_cond_of rfl (fun h => by cases h) (fun _ => ?_)
    simp
    refine hend _ _ rfl rfl rfl rfl (by simp [hnx]) rfl rfl rfl rfl rfl t0 ?_ t2
    rw [t1, midW_same (by simpa using hws)]
   | false =>
    rw [hb] at hnx hws
    simp
    refine callK_of (free97 hB hil (by omega) hglt hst) ?_
    simp
    refine h37 _ _ _ ?_
    clear h37 K37
    cases hfr : frB J B i now with
    | false =>
     rw [hfr] at hnx hws
     refine ab_cond_of rfl (fun h => by cases h) (fun _ => ?_)
     simp
     refine hend _ _ rfl rfl rfl rfl (by simp [hnx]) rfl rfl rfl rfl rfl t0 ?_ t2
     rw [t1, midW_same (by simpa using hws)]
    | true =>
     rw [hfr] at hnx hws
     rw [if_pos ⟨hil, rfl⟩] at hws
     replace hnx : newTo J B now (i + 1) = newTo J B now i ||| 2 ^ i := by rw [hnx]; rfl
     refine ab_cond_of rfl (fun _ => ?_) (fun h => by cases h)
     have hms := midW_set (J := J) (B := B) (keys := keys) (r := r) (i := i)
     rw [hws] at hms
     generalize hG : midW J B keys r i = G at *
     have hi12 : i < 12 := by omega
     have hp : 2 ^ i < 2 ^ 16 := Nat.pow_lt_pow_right (by omega) (by omega)
     have e3 := shl_nat' (m := i) (by omega)
     have e4 := or_nat (a := newTo J B now i) (b := 2 ^ i) hnt hp
     generalize 2 ^ i = p at *
     refine ab_seq_k fun K38 h38 => ?_
     simp [t1, t1', hi12]
     rw [ints_set, rowF_set, hms]
     refine ⟨by omega, h38 _ _ _ ?_⟩
     simp [e3]
     rw [e4, ← hnx]
     refine hend _ _ rfl rfl rfl rfl rfl rfl rfl rfl rfl rfl (by rw [List.getElem?_set_ne (by omega)]; exact t0) (List.getElem?_set_self ht1) (by rw [List.getElem?_set_ne (by omega)]; exact t2)
  ·have hil : i = J.length := by simp at hc; omega
   subst hil
   have hmw : rowF 12 (midW J B keys r J.length) = rowF 12 (wr J B keys (r + 1)) := by
    refine rowF_congr fun j _ => ?_
    unfold midW
    by_cases h : j < J.length
    ·rw [if_pos h]
    ·rw [if_neg h, wr_step, if_neg (fun h2 => h h2.1)]
   rw [hmw] at t1
   clear hmw
   have hg1 : newTo J B now J.length = gk J B keys (r + 1) := by rw [← hgk]; rfl
   rw [hg1]
   simp
   refine h30 _ _ _ (h28 _ _ _ ?_)
   clear h28 h30 h31 h33 K28 K30 K31 K33 t1' ht1
   obtain ⟨ht1, t1'⟩ := List.getElem?_eq_some_iff.1 t1
   obtain ⟨ht0, t0'⟩ := List.getElem?_eq_some_iff.1 t0
   obtain ⟨ht2, t2'⟩ := List.getElem?_eq_some_iff.1 t2
   have hik : ∀ l, intsK .i64 (ints l) = some l := fun l => by
    induction l with
    | nil => rfl
    | cons a l ih => simp [ints, intsK] at ih ⊢; simp [ih]
   have htk : ∀ F, List.take 12 (ints (rowF 12 F)) = ints (rowF 12 F) := fun F => List.take_of_length_le (by simp)
   refine ab_seq_k fun K40 h40 => ?_
   simp [htk, t1, t1', t2, t2', hik]
   refine h40 _ _ _ ?_
   clear h40 K40
   by_cases hsame : rowF 12 (wr J B keys (r + 1)) = rowF 12 (wr J B keys r)
   ·refine ab_cond_of rfl (fun _ => ?_) (fun h => absurd hsame (of_decide_eq_false h))
    have hg := round_same hN hsame
    have hre := hres r (by omega) hg
    refine ab_seq_k fun K41 h41 => ?_
    simp [t1, t1', t0, t0']
    refine h41 _ _ _ ?_
    simp
    refine fin_of 2 ?_
    rw [show List.take 12 (ints (rowF 12 (wr J B keys (r + 1)))) ++ List.drop 12 (ints (rowF 12 fun _ => 0)) = ints (rowF 12 (wr J B keys (r + 1))) from rfl, hre]
    have e0 : (σ.set 0 (O.row 0 (ints (rowF 12 (wr J B keys J.length)))))[0]? = some (O.row 0 (ints (rowF 12 (wr J B keys J.length)))) := List.getElem?_set_self ht0
    generalize σ.set 0 (O.row 0 (ints (rowF 12 (wr J B keys J.length)))) = U at *
    obtain ⟨he0, e0'⟩ := List.getElem?_eq_some_iff.1 e0
    simp [-frz, rs63, e0, e0', htk]
    rw [frz_pure (by simp)]
   ·refine ab_cond_of rfl (fun h => absurd (of_decide_eq_true h) hsame) (fun _ => ?_)
    have hmore := round_more (J := J) (B := B) hsame
    rw [hgk] at hmore
    simp
    refine h26 _ _ _ (h25 _ _ _ ?_)
    simp [wrap64 (x := (r : Int) + 1 + 1) (by omega) (by omega)]
    exact h24 _ _ _ (again (m - 1) (by omega) ⟨r + 1, by omega, by omega, by simp, t0, t1⟩)
end Go.Ab
end
section
namespace Go.Ab
open Go Go.Proofs
theorem pow12 {N : Nat} (h : N ≤ 12) : 1 ≤ 2 ^ N ∧ 2 ^ N ≤ 4096 := by
 have h1 : 2 ^ N ≤ 2 ^ 12 := Nat.pow_le_pow_right (by omega) h
 have h2 : 0 < 2 ^ N := Nat.two_pow_pos N
 omega
def HeapAt (J : List Lg) (f : Bool) (v : V) (σ : List O) : Prop := (∃ b st, v = .sp (hpC J f b st) 0) ∨ ∃ id b st, v = .p id 0 0 ∧ σ[id]? = some (.row 0 (hpC J f b st))
theorem sets91 {v : V} {σ : List O} (hv : cellsOf v = some [v]) : FSpec Tryz.prog 91 [v] σ (.f (.func 115) [] [.p σ.length 0 0]) (σ ++ [.row 0 [v]]) := by
 refine fn91.spec mixed noIt_ok ?_
 rw [ic91]
 refine ab_seq_k fun K1 h1 => ?_
 simp [hv]
 refine h1 _ _ _ ?_
 clear h1 K1
 refine ab_seq_k fun K2 h2 => ?_
 simp
 refine h2 _ _ _ ?_
 clear h2 K2
 simp
 refine fin_all ?_
 simp [rs91]
def ItS (P : Program) (f : FuncId) (first cap : List V) (N : Nat) (X : Nat → List V → List O → List O → Prop) (Pre : List O → Prop) : Prop :=
 (∃ fn, P.funcs[f]? = some fn ∧ fn.name ≠ "runtime.NumGoroutine" ∧ fn.body.isSome = true) ∧
  ∀ (Inv : Md → Cx → List Deferred → Prop) (Y : Yield) (J Dn : Nat → List O → Prop) (C : Cx) (σ : List O) (l : Nat) (cargs : List Value), InvOK σ.length Inv → YOK P Fence.wide Inv Y → R C σ → Inv none C [] → J 0 σ → (∀ i σ, J i σ → Pre σ) →
   VRl C (first ++ [V.f (.yield l) [] []] ++ cap) cargs →
   (∀ i x σ' g' (Kont : Md → V → List O → Prop), i < N → X i x σ' g' → J i σ' → (∀ σ'', J (i + 1) σ'' → Kont none (.b true) σ'') → (∀ j σ'', Dn j σ'' → Kont (some j) (.b false) σ'') → Y l x (σ' ++ g') Kont) →
   CallsIn Fence.wide 0 P f cargs.toArray C.w (fun e w' => ∃ C' cv md σ', C'.w = w' ∧ e = .returned cv ∧ R C' σ' ∧ Inv md C' [] ∧ (match md with | none => J N σ' | some j => Dn j σ'))
abbrev ItT : ItTy := ItS Tryz.prog
theorem itT_ok : ItOK Tryz.prog ItT := fun _ _ _ _ _ _ h => h
theorem LtAll.nil {σ : List O} (h : LtAll σ) : ∃ k0, ∀ k, k0 ≤ k → frzS k σ.length σ = σ := by
 obtain ⟨k0, hk0⟩ := h.cut
 exact ⟨k0, fun k hk => by have := hk0 k hk []; rwa [List.append_nil] at this⟩
def SetAt (J : List Lg) (f : Bool) (ic : Nat) (v : V) (σ : List O) : Prop := σ[ic]? = some (.row 0 [v]) ∧ HeapAt J f v σ
def XSet (i : Nat) (x : List V) (σ g : List O) : Prop := x = [.i .u16 i] ∧ g = []
def PreC (J : List Lg) (f : Bool) (c : V) (σ : List O) : Prop := (∃ ic v, c = .p ic 0 0 ∧ SetAt J f ic v σ) ∨ ∃ b st, c = .sp [.sp (hpC J f b st) 0] 0
theorem ItS.imp {P : Program} {f : FuncId} {a b : List V} {N : Nat} {X X' : Nat → List V → List O → List O → Prop} {Pre Pre' : List O → Prop} (h : ItS P f a b N X Pre) (hX : ∀ i x σ g, i < N → X i x σ g → X' i x σ g) (hP : ∀ σ, Pre' σ → Pre σ) : ItS P f a b N X' Pre' :=
 ⟨h.1, fun Inv Y J Dn C σ l cargs h1 h2 h3 h4 h5 h6 h7 h8 => h.2 Inv Y J Dn C σ l cargs h1 h2 h3 h4 h5 (fun i σ hj => hP σ (h6 i σ hj)) h7 (fun i x σ' g' Kont hi hx hj hk hd => h8 i x σ' g' Kont hi (hX i x σ' g' hi hx) hj hk hd)⟩
theorem sets_itC {J : List Lg} {f : Bool} {W : Nat} {c : V} (hN : J.length ≤ 12) (hW : 2 ^ J.length = W) :
  ItT 115 [] [c] W XSet (PreC J f c) := by
 refine fn115.iter mixed (fun J2 Dn σ l hP hJ hL => ?_)
 generalize hn0 : σ.length = n0
 have hpw := pow12 hN
 rw [hW] at hpw
 have hP0 := hP 0 σ hJ
 rw [ic115]
 refine ab_seq_k fun K1 h1 => ?_
 have eW := shl_nat' (m := J.length) (by omega)
 rw [hW] at eW
 have hK1 : K1 none [(0, .f (.yield l) [] []), (10, .i .u16 W), (11, .i .u16 0)] σ := by
  refine h1 _ _ _ ?_
  clear h1 K1
  have hfin : ∀ env σ, J2 W σ → LtAll σ → n0 ≤ σ.length → finI n0 (J2 W) Dn none env σ := by
   intro env σ hJ hL hn
   obtain ⟨k1, hk1⟩ := hL.nil
   exact ⟨k1, σ.length, hn, Nat.le_refl _, by simp only; rw [hk1 _ (Nat.le_refl _)]; exact hJ⟩
  have hfin2 : ∀ env σ d, Dn d σ → LtAll σ → n0 ≤ σ.length → finI n0 (J2 W) Dn (some d) env σ := by
   intro env σ d hD hL hn
   obtain ⟨k1, hk1⟩ := hL.nil
   exact ⟨k1, σ.length, hn, Nat.le_refl _, by simp only; rw [hk1 _ (Nat.le_refl _)]; exact hD⟩
  refine ab_block_k fun K5 h5 => ?_
  refine ab_loop_k (fun m env σ => ∃ i : Nat, i + m = W ∧ env = [(0, .f (.yield l) [] []), (10, .i .u16 W), (11, .i .u16 i)] ∧ J2 i σ ∧ LtAll σ ∧ n0 ≤ σ.length) W ⟨0, by omega, by simp, hJ, hL, by omega⟩ ?_
  clear hL hJ hn0 hP0 σ
  rintro m env σ ⟨i, hi, rfl, hJ, hL, hn⟩ K6 h6
  rw [ic115_0]
  refine ab_seq_k fun K7 h7 => ?_
  simp
  refine h7 _ _ _ ?_
  clear h7 K7
  refine ab_seq_k fun K8 h8 => ?_
  refine ab_cond_of rfl (fun hc => ?_) (fun hc => ?_)
  ·have hil : i < W := by simpa using hc
   simp
   refine h8 _ _ _ ?_
   clear h8 K8
   refine ab_seq_k fun K9 h9 => ?_
   refine ab_block_k fun K10 h10 => ?_
   refine ab_seq_k fun K11 h11 => ?_
   simp
   refine h11 _ _ _ ?_
   clear h11 K11
   refine ab_seq_k fun K12 h12 => ?_
   simp
   obtain ⟨k0, hk0⟩ := hL.nil
   refine ⟨rfl, k0 + 2, σ.length, hn, Nat.le_refl _, rfl, i, σ, [], by rw [hk0 _ (by omega), List.append_nil], hil, ⟨by simp, rfl⟩, hJ, fun σ'' hJ'' hL'' hn'' => ?_, fun d σ'' hD hL'' hn'' => ?_⟩
   ·simp
    refine h12 _ _ _ ?_
    refine ab_cond_of rfl (fun h => by cases h) (fun _ => ?_)
    simp
    refine h10 _ _ _ ?_
    refine h9 _ _ _ ?_
    simp [wrapu (x := (i : Int) + 1) (by omega) (by omega)]
    exact h6 _ _ _ (again (m - 1) (by omega) ⟨i + 1, by omega, by simp, hJ'', hL'', hn''⟩)
   ·simp
    refine h12 _ _ _ ?_
    refine ab_cond_of rfl (fun _ => ?_) (fun h => by cases h)
    simp
    exact hfin2 _ _ _ hD hL'' hn''
  ·have hil : i = W := by simp at hc; omega
   subst hil
   simp
   refine h5 _ _ _ ?_
   exact hfin _ _ hJ hL hn
 rcases hP0 with ⟨ic, v, rfl, s0, ⟨b, st, rfl⟩ | ⟨id, b, st, rfl, s1⟩⟩ | ⟨b, st, rfl⟩
 ·obtain ⟨hs0, s0'⟩ := List.getElem?_eq_some_iff.1 s0
  simp [s0, s0', eW]
  exact hK1
 ·obtain ⟨hs0, s0'⟩ := List.getElem?_eq_some_iff.1 s0
  obtain ⟨hs1, s1'⟩ := List.getElem?_eq_some_iff.1 s1
  simp [s0, s0', s1, s1', eW]
  exact hK1
 ·simp [eW]
  exact hK1
theorem sets_it {J : List Lg} {f : Bool} {W ic : Nat} {v : V} (hN : J.length ≤ 12) (hW : 2 ^ J.length = W) :
  ItT 115 [] [.p ic 0 0] W XSet (SetAt J f ic v) := (sets_itC hN hW).imp (fun _ _ _ _ _ h => h) fun σ h => .inl ⟨ic, v, rfl, h⟩
theorem sets_itF {J : List Lg} {f : Bool} {W : Nat} {b st : V} (hN : J.length ≤ 12) (hW : 2 ^ J.length = W) :
  ItT 115 [] [.sp [.sp (hpC J f b st) 0] 0] W XSet (fun _ => True) := (sets_itC (f := f) hN hW).imp (fun _ _ _ _ _ h => h) fun σ h => .inr ⟨b, st, rfl⟩
end Go.Ab
end
section
namespace Go.Ab
open Go Go.Proofs
def leftTo (w : Nat → Int) : Nat → Nat
 | 0 => 0
 | n + 1 => if w n < 0 then leftTo w n ||| 2 ^ n else leftTo w n
theorem leftTo_bit {w : Nat → Int} : ∀ {n j : Nat}, (leftTo w n).testBit j = (decide (j < n) && decide (w j < 0))
 | 0, j => by simp [leftTo]
 | n + 1, j => by
  have ih := leftTo_bit (w := w) (n := n) (j := j)
  unfold leftTo
  by_cases hj : j = n
  ·subst hj
   split
   ·rename_i h
    rw [Nat.testBit_or, Nat.testBit_two_pow, ih]
    simp [h]
   ·rename_i h
    rw [ih]
    simp [h]
  ·have h1 : decide (j < n + 1) = decide (j < n) := by
    by_cases h : j < n
    ·simp [h]; omega
    ·simp [h]; omega
   split
   ·rw [Nat.testBit_or, Nat.testBit_two_pow, ih, h1]
    have h2 : decide (n = j) = false := decide_eq_false (fun e => hj e.symm)
    rw [h2, Bool.or_false]
   ·rw [ih, h1]
theorem leftTo_lt {w : Nat → Int} : ∀ {n : Nat}, n ≤ 16 → leftTo w n < 65536
 | 0, _ => by simp [leftTo]
 | n + 1, hn => by
  have ih := leftTo_lt (w := w) (n := n) (by omega)
  unfold leftTo
  split
  ·have hp : 2 ^ n < 2 ^ 16 := Nat.pow_lt_pow_right (by omega) (by omega)
   exact Nat.or_lt_two_pow (n := 16) ih hp
  ·exact ih
def byB (J : List Lg) : List Nat := J.map fun l => setB l.2.1
def left (J : List Lg) (s : Nat) : Nat := leftTo (wr J (byB J) s J.length) J.length
theorem left_lt {J : List Lg} {s : Nat} (hN : J.length ≤ 12) : left J s < 65536 := leftTo_lt (by omega)
def entS (F : Nat → Nat) (s : Nat) : Ent := (s, [(s : Int)], .i .u16 (F s))
def entsTo (F : Nat → Nat) (i : Nat) : List Ent := (List.range i).map (entS F)
theorem entsTo_succ {F : Nat → Nat} {i : Nat} : entsTo F (i + 1) = entsTo F i ++ [(i, [(i : Int)], .i .u16 (F i))] := by simp [entsTo, entS, List.range_succ]
theorem entsTo_mem {F : Nat → Nat} {i : Nat} {e : Ent} : e ∈ entsTo F i ↔ ∃ s, s < i ∧ e = entS F s := by
 simp only [entsTo, List.mem_map, List.mem_range]
 constructor <;> (rintro ⟨s, h1, h2⟩; exact ⟨s, h1, h2.symm⟩)
theorem entsTo_ok {F : Nat → Nat} {i : Nat} : MapOK 1 (entsTo F i) i := by
 refine ⟨by omega, fun e he => ?_, ?_, ?_, fun e he => ?_⟩
 ·obtain ⟨s, -, rfl⟩ := entsTo_mem.1 he; rfl
 ·unfold entsTo
  rw [List.map_map]
  refine List.Pairwise.map _ (fun a b hab h => hab ?_) (List.nodup_range (n := i))
  simp [entS] at h
  omega
 ·unfold entsTo
  rw [List.map_map]
  refine List.Pairwise.map _ (fun a b hab h => hab ?_) (List.nodup_range (n := i))
  simpa [entS] using h
 ·obtain ⟨s, hs, rfl⟩ := entsTo_mem.1 he; exact hs
theorem entsTo_none {F : Nat → Nat} {i : Nat} : lk (entsTo F i) [(i : Int)] = none := by
 rw [lk_none]
 intro h
 obtain ⟨e, he, h2⟩ := List.mem_map.1 h
 obtain ⟨s, hs, rfl⟩ := entsTo_mem.1 he
 simp [entS] at h2
 omega
def goodE (F : Nat → Nat) (e : Ent) : Bool := decide (F e.1 ≠ 0)
def leftE (F : Nat → Nat) (seen : List Nat) (e : Ent) : Bool := !(decide (e.1 ∈ seen) && !goodE F e)
def stuckE (F : Nat → Nat) (W : Nat) : List Ent := (entsTo F W).filter (goodE F)
theorem stuckE_len {F : Nat → Nat} {W : Nat} : ∀ e ∈ stuckE F W, e.2.1.length = 1 := fun e he => entsTo_ok.len e (List.mem_filter.1 he).1
theorem stuck_is {F : Nat → Nat} {W s : Nat} (hs : s < W) : (match lk (stuckE F W) [(s : Int)] with | some v => v | none => .i .u16 0) = .i .u16 (F s) := by
 have hmem : entS F s ∈ entsTo F W := entsTo_mem.2 ⟨s, hs, rfl⟩
 by_cases h : F s = 0
 ·have : lk (stuckE F W) [(s : Int)] = none := by
   rw [lk_none]
   intro hm
   obtain ⟨e, he, h2⟩ := List.mem_map.1 hm
   obtain ⟨h3, h4⟩ := List.mem_filter.1 he
   obtain ⟨s', hs', rfl⟩ := entsTo_mem.1 h3
   simp [entS] at h2
   have : s' = s := by omega
   subst this
   simp [goodE, entS, h] at h4
  rw [this, h]; rfl
 ·have hin : entS F s ∈ stuckE F W := List.mem_filter.2 ⟨hmem, by simp [goodE, entS, h]⟩
  have hok : MapOK 1 (stuckE F W) W := entsTo_ok.filter
  obtain ⟨j, hj⟩ := List.mem_iff_getElem?.1 hin
  have := lk_at hok hj
  simp only [entS] at this
  rw [this]
def stV (F : Nat → Nat) (W : Nat) : V := .sm ((mpV (stuckE F W)).map (·.2))
theorem pure_mpV {E : List Ent} (h : ∀ e ∈ E, e.2.2.pure = true) : (V.sm ((mpV E).map (·.2))).pure = true := by
 show pureM _ = true
 rw [pureM_all]
 intro e he
 obtain ⟨x, hx, rfl⟩ := List.mem_map.1 he
 unfold mpV at hx
 obtain ⟨y, hy, rfl⟩ := List.mem_map.1 hx
 refine ⟨?_, h y hy⟩
 show pureL (y.2.1.map (V.i .u16)) = true
 rw [pureL_all]
 intro x hx
 obtain ⟨z, -, rfl⟩ := List.mem_map.1 hx
 rfl
@[simp] theorem pure_stV {F : Nat → Nat} {W : Nat} : (stV F W).pure = true := pure_mpV fun e he => by
 obtain ⟨s, -, rfl⟩ := entsTo_mem.1 (List.mem_filter.1 he).1
 rfl
theorem frz_mp {k n id c : Nat} {σ : List O} {E : List Ent} (h : σ[id]? = some (.map (mpV E) c)) (hn : n ≤ id) (hp : ∀ e ∈ E, e.2.2.pure = true) : frz (k + 2) n σ (.m id) = .sm ((mpV E).map (·.2)) := by
 rw [frz]
 simp only [V.pure, Bool.false_eq_true, if_false, Nat.not_lt.2 hn, h]
 congr 1
 refine List.map_congr_left (fun e he => ?_)
 unfold mpV at he
 obtain ⟨x, hx, rfl⟩ := List.mem_map.1 he
 show (frz (k + 1) n σ (kV x.2.1), frz (k + 1) n σ x.2.2) = (kV x.2.1, x.2.2)
 rw [frz_pure (hp x hx), frz_pure (by
  show pureL (x.2.1.map (V.i .u16)) = true
  rw [pureL_all]
  intro y hy
  obtain ⟨z, -, rfl⟩ := List.mem_map.1 hy
  rfl)]
theorem frz_hp {J : List Lg} {f : Bool} {b st : V} {k id : Nat} {σ : List O} (h : σ[id]? = some (.row 0 (hpC J f b st))) : frz (k + 2) 0 σ (.p id 0 0) = .sp (hpC J f (frz (k + 1) 0 σ b) (frz (k + 1) 0 σ st)) 0 := by
 rw [frz]
 simp only [V.pure, Bool.false_eq_true, if_false, Nat.not_lt_zero, h, if_true]
 show V.sp [frz (k + 1) 0 σ (slJ J f), _, _] 0 = _
 rw [frz_pure (by simp)]
structure HpH (J : List Lg) (f : Bool) (n : Nat) (b : V) (E : List Ent) (c : Nat) (σ : List O) : Prop where
 j : σ[0]? = some (.row 0 [slJ J f])
 m : σ[1]? = some (.map (mpV E) c)
 l : σ[2]? = some (.row 0 (hpC J f b (.m 1)))
 x : σ[3]? = some (.row 0 [.p 2 0 0])
 g : Gr 4 1 σ b n (us ((byB J).take n))
theorem HpH.app {J f n b E c σ g} (h : HpH J f n b E c σ) : HpH J f n b E c (σ ++ g) := ⟨app_get h.j, app_get h.m, app_get h.l, app_get h.x, h.g.app⟩
theorem frz_G' {k es n : Nat} {σ : List O} {v : V} {cs : List V} {kk : Nat} (h : Gr k es σ v n cs) (hp : pureL cs = true) : frz (kk + 2) 0 σ v = .ss cs n (n == 0) := by
 rcases h.cases with ⟨rfl, rfl, rfl⟩ | ⟨id, ver, hn, hid, rfl, hs, hlt⟩
 ·exact frz_pure (by simp)
 ·have hl := h.1
  rw [frz_row hs (Nat.zero_le _) hl hp]
  have : (n == 0) = false := by simp [hn]
  rw [this]
theorem waves63m {J : List Lg} {f : Bool} {b : V} {E : List Ent} {c keys : Nat} {σ : List O} (hH : HpH J f J.length b E c σ) (hE : ∀ e ∈ E, e.2.2.pure = true) (hB : SmallB J (byB J)) (hN : J.length ≤ 12) (hk : keys < 65536) :
  FSpec Tryz.prog 63 [.p 2 0 0, .i .u16 keys] σ (.agg (ints (rowF 12 (wr J (byB J) keys J.length)))) σ := by
 refine FSpec.frozen 4 ?_ ?_
 ·simp only [List.map_cons, List.map_nil]
  have hlen : (byB J).length = J.length := hB.1
  have hg := hH.g
  rw [List.take_of_length_le (by omega)] at hg
  have h1 := frz_G' (kk := 1) hg (by simp)
  have h2 := frz_mp (k := 1) (n := 0) hH.m (Nat.zero_le _) hE
  rw [frz_hp (k := 2) hH.l, h1, h2, frz_pure rfl]
  have h3 := waves63 (J := J) (B := byB J) (fJ := f) (fb := J.length == 0) (st := .sm ((mpV E).map (·.2))) (keys := keys) (σ := []) hB hN hk (pure_mpV hE)
  simp only [hpV, hlen] at h3
  exact h3
 ·rfl
end Go.Ab
end
section
namespace Go.Ab
open Go Go.Proofs
def JOK (J : List Lg) : Prop := 1 ≤ J.length ∧ J.length ≤ 12 ∧ ∀ p ∈ J, (∀ x ∈ p.2.1, 0 ≤ x ∧ x < (12 : Nat)) ∧ p.2.1.length ≤ 1000000
theorem JOK.small {J : List Lg} (h : JOK J) : SmallB J (byB J) := by
 refine ⟨by simp [byB], fun x hx => ?_⟩
 unfold byB at hx
 obtain ⟨p, hp, rfl⟩ := List.mem_map.1 hx
 have := setB_lt (h.2.2 p hp).1
 omega
theorem byB_take {J : List Lg} {i : Nat} {p : Lg} (h : J[i]? = some p) : us ((byB J).take (i + 1)) = us ((byB J).take i) ++ [.i .u16 (setB p.2.1)] := by
 have : (byB J)[i]? = some (setB p.2.1) := by unfold byB; rw [List.getElem?_map, h]; rfl
 rw [List.take_add_one, this]
 simp [us]
abbrev heapV (J : List Lg) (f : Bool) : V := hpV J f (byB J) (J.length == 0) (stV (left J) (2 ^ J.length))
theorem newHeap96 {J : List Lg} {f : Bool} {W : Nat} (hJ : JOK J) (hW : 2 ^ J.length = W) : FSpec Tryz.prog 96 [jamV J f] [] (hpV J f (byB J) (J.length == 0) (stV (left J) W)) [] := by
 have hsm := hJ.small
 obtain ⟨hN1, hN, hby⟩ := hJ
 have hpw := pow12 hN
 rw [hW] at hpw
 refine fn96.spec0 mixed itT_ok ?_
 rw [ic96]
 refine ab_seq_k fun K1 h1 => ?_
 simp
 refine h1 _ _ _ ?_
 clear h1 K1
 refine ab_seq_k fun K2 h2 => ?_
 simp
 refine h2 _ _ _ ?_
 clear h2 K2
 refine ab_seq_k fun K3 h3 => ?_
 refine ab_seq_k fun K4 h4 => ?_
 simp
 refine h4 _ _ _ ?_
 clear h4 K4
 refine ab_block_k fun K5 h5 => ?_
 refine ab_loop_k (fun m env σ => ∃ (i : Nat) (b : V), i + m = J.length ∧ env = [(1, .p 0 0 0), (3, .p 3 0 0), (17, slJ J f), (18, .i .i64 J.length), (19, .i .i64 i)] ∧ HpH J f i b [] 0 σ) J.length ⟨0, .ss [] 0 true, by omega, by simp, ⟨rfl, rfl, rfl, rfl, Gr.nil⟩⟩ ?_
 rintro m env σ ⟨i, b, hi, rfl, hH⟩ K6 h6
 rw [ic96_0]
 refine ab_seq_k fun K7 h7 => ?_
 simp
 refine h7 _ _ _ ?_
 clear h7 K7
 refine ab_seq_k fun K8 h8 => ?_
 refine ab_cond_of rfl (fun hc => ?_) (fun hc => ?_)
 ·have hil : i < J.length := by simpa using hc
  obtain ⟨p, hp⟩ : ∃ p, J[i]? = some p := ⟨_, List.getElem?_eq_getElem hil⟩
  obtain ⟨e1, -, -⟩ := lgV_get hp
  obtain ⟨hb1, hb2⟩ := hby p (List.mem_of_getElem? hp)
  have hle : i * 2 + 2 ≤ J.length * 2 := by omega
  have hm2 : min 2 (J.length * 2 - i * 2) = 2 := by omega
  have hbt := byB_take hp
  simp
  refine h8 _ _ _ ?_
  clear h8 K8
  refine ab_seq_k fun K9 h9 => ?_
  refine ab_block_k fun K10 h10 => ?_
  refine ab_seq_k fun K11 h11 => ?_
  simp [hil, hle, e1, hm2]
  refine h11 _ _ _ ?_
  clear h11 K11
  have q0 := hH.app (g := [O.row 0 [V.i .i64 p.1, sl p.2.1 p.2.2]])
  have qL : (σ ++ [O.row 0 [V.i .i64 p.1, sl p.2.1 p.2.2]])[σ.length]? = some (O.row 0 [V.i .i64 p.1, sl p.2.1 p.2.2]) := by simp
  generalize σ ++ [O.row 0 [V.i .i64 p.1, sl p.2.1 p.2.2]] = U at *
  generalize σ.length = L at *
  clear hH σ
  obtain ⟨qj, qm, ql, qx, qg⟩ := q0
  obtain ⟨hqx, qx'⟩ := List.getElem?_eq_some_iff.1 qx
  obtain ⟨hql, ql'⟩ := List.getElem?_eq_some_iff.1 ql
  obtain ⟨hqL, qL'⟩ := List.getElem?_eq_some_iff.1 qL
  have hset := fun σ => FSpec.frame (σ := σ) (setOf64 (l := p.2.1) (f := p.2.2) hb1 hb2) (by simp) rfl
  simp [abDs_consU, drU, recheck_cons, recheck_nil, rcK, IS.dst, qx, qx', ql, ql', qL, qL']
  refine callK_of (hset _) ?_
  simp [abDs_consU, drU, recheck_cons, recheck_nil, rcK, IS.dst, qx, qx', ql, ql', qL, qL']
  refine appG qg (by omega) (by omega) (by omega) rfl ?_
  intro v' σ' hv' hgr
  have hbid : ∀ k, k < 4 → idOf b ≠ some k := fun k hk e => by have := (qg.id_ge e).1; omega
  have rx := hgr.get (hbid 3 (by omega)) qx
  have rl := hgr.get (hbid 2 (by omega)) ql
  have rj := hgr.get (hbid 0 (by omega)) qj
  have rm := hgr.get (hbid 1 (by omega)) qm
  obtain ⟨hrx, rx'⟩ := List.getElem?_eq_some_iff.1 rx
  obtain ⟨hrl, rl'⟩ := List.getElem?_eq_some_iff.1 rl
  simp [abDs_consU, drU, recheck_cons, recheck_nil, rcK, IS.dst, rx, rx', rl, rl']
  refine ⟨hv'.one, h10 _ _ _ (h9 _ _ _ ?_)⟩
  simp [wrap64 (x := (i : Int) + 1) (by omega) (by omega)]
  refine h6 _ _ _ (again (m - 1) (by omega) ⟨i + 1, v', by omega, by simp, ?_, ?_, List.getElem?_set_self hrl, ?_, ?_⟩)
  ·rw [List.getElem?_set_ne (by omega)]; exact rj
  ·rw [List.getElem?_set_ne (by omega)]; exact rm
  ·rw [List.getElem?_set_ne (by omega)]; exact rx
  ·rw [hbt]; exact hv'.setlt (by omega)
 ·have hil : i = J.length := by simp at hc; omega
  subst hil
  simp
  refine h5 _ _ _ (h3 _ _ _ ?_)
  clear h3 h5 h6 h8 K3 K5 K6 K8
  refine ab_seq_k fun K12 h12 => ?_
  refine ab_seq_k fun K13 h13 => ?_
  obtain ⟨qj, qm, ql, qx, qg⟩ := hH
  obtain ⟨hqx, qx'⟩ := List.getElem?_eq_some_iff.1 qx
  simp [qx, qx']
  refine callK_of (sets91 rfl) ?_
  simp
  refine h13 _ _ _ ?_
  clear h13 K13
  refine ab_block_k fun K14 h14 => ?_
  have hqx4 : 3 < σ.length := hqx
  clear qx' hqx
  generalize hic : σ.length = ic at *
  refine ⟨W, XSet, SetAt J f ic (.p 2 0 0), sets_it hN hW, fun i σ2 => HpH J f J.length b (entsTo (left J) i) i σ2 ∧ σ2[ic]? = some (.row 0 [.p 2 0 0]), fun i σ2 ⟨h, h4⟩ => ⟨h4, .inr ⟨_, _, _, rfl, h.l⟩⟩, ⟨⟨app_get qj, app_get qm, app_get ql, app_get qx, qg.app⟩, by rw [← hic]; simp⟩, ?_, ?_⟩
  ·rintro i x σ2 g hi ⟨rfl, rfl⟩ ⟨hq, hq4⟩
   refine ⟨rfl, ?_⟩
   generalize hKR : roundK _ _ _ = KR
   rw [List.append_nil]
   simp
   rw [ic96_2]
   have ez : List.replicate 12 (V.i .i64 0) = ints (rowF 12 (fun _ => 0)) := rfl
   have hEp : ∀ e ∈ entsTo (left J) i, e.2.2.pure = true := fun e he => by obtain ⟨s, -, rfl⟩ := entsTo_mem.1 he; rfl
   have hi16 : i < 65536 := by omega
   have hwav := waves63m (keys := i) hq hEp hsm hN hi16
   have hlf : left J i = leftTo (wr J (byB J) i J.length) J.length := rfl
   generalize wr J (byB J) i J.length = w at *
   obtain ⟨rj, rm, rl, rx, rg⟩ := hq
   obtain ⟨hrx, rx'⟩ := List.getElem?_eq_some_iff.1 rx
   refine ab_block_k fun K16 h16 => ?_
   refine ab_seq_k fun K17 h17 => ?_
   simp
   refine h17 _ _ _ ?_
   clear h17 K17
   refine ab_seq_k fun K18 h18 => ?_
   simp [-List.reduceReplicate, ez, rx, rx']
   refine callK_of hwav ?_
   simp [-List.reduceReplicate, ez, rx, rx']
   refine h18 _ _ _ ?_
   clear h18 K18 hwav
   have eR : ints (rowF 12 w) ++ List.drop 12 (ints (rowF 12 fun _ => 0)) = ints (rowF 12 w) := rfl
   rw [eR]
   have u0 := HpH.app (g := [O.row 0 (ints (rowF 12 w))]) ⟨rj, rm, rl, rx, rg⟩
   have u4 := app_get (g := [O.row 0 (ints (rowF 12 w))]) hq4
   have uL : (σ2 ++ [O.row 0 (ints (rowF 12 w))])[σ2.length]? = some (O.row 0 (ints (rowF 12 w))) := by simp
   have hicL : ic < σ2.length := (List.getElem?_eq_some_iff.1 hq4).1
   clear rx' hrx rj rm rl rx rg hq4 eR
   generalize σ2.length = L at *
   generalize σ2 ++ [O.row 0 (ints (rowF 12 w))] = U at *
   obtain ⟨uj, um, ul, ux, ug⟩ := u0
   obtain ⟨huj, uj'⟩ := List.getElem?_eq_some_iff.1 uj
   obtain ⟨huL, uL'⟩ := List.getElem?_eq_some_iff.1 uL
   obtain ⟨hux, ux'⟩ := List.getElem?_eq_some_iff.1 ux
   obtain ⟨hul, ul'⟩ := List.getElem?_eq_some_iff.1 ul
   obtain ⟨hum, -⟩ := List.getElem?_eq_some_iff.1 um
   refine ab_seq_k fun K20 h20 => ?_
   refine ab_seq_k fun K21 h21 => ?_
   simp [uj, uj']
   refine h21 _ _ _ ?_
   clear h21 K21
   refine ab_block_k fun K22 h22 => ?_
   refine ab_loop_k (fun m env σ => ∃ n : Nat, n + m = J.length ∧ env = [(3, .p 3 0 0), (6, .i .u16 i), (7, .i .u16 (leftTo w n)), (8, .p L 0 0), (44, .i .i64 J.length), (45, .i .i64 n)] ∧ σ = U) J.length ⟨0, by omega, by simp [leftTo], rfl⟩ ?_
   rintro m env σ ⟨n, hn, rfl, rfl⟩ K23 h23
   rw [ic96_1]
   refine ab_seq_k fun K24 h24 => ?_
   simp
   refine h24 _ _ _ ?_
   clear h24 K24
   refine ab_seq_k fun K25 h25 => ?_
   refine ab_cond_of rfl (fun hc => ?_) (fun hc => ?_)
   ·have hnl : n < J.length := by simpa using hc
    have hn12 : n < 12 := by omega
    have hlt := leftTo_lt (w := w) (n := n) (by omega)
    simp
    refine h25 _ _ _ ?_
    clear h25 K25
    refine ab_seq_k fun K26 h26 => ?_
    refine ab_block_k fun K27 h27 => ?_
    refine ab_seq_k fun K28 h28 => ?_
    simp
    refine h28 _ _ _ ?_
    clear h28 K28
    have hend : ∀ env, get env 3 = .p 3 0 0 → get env 6 = .i .u16 i → get env 7 = .i .u16 (leftTo w (n + 1)) → get env 8 = .p L 0 0 → get env 44 = .i .i64 J.length → get env 45 = .i .i64 n → K27 (some 0) env σ := by
     intro env w3 w6 w7 w8 w44 w45
     refine h27 _ _ _ (h26 _ _ _ ?_)
     simp [w3, w6, w7, w8, w44, w45, wrap64 (x := (n : Int) + 1) (by omega) (by omega)]
     exact h23 _ _ _ (again (m - 1) (by omega) ⟨n + 1, by omega, by simp, rfl⟩)
    clear h26 h27 h23
    have hwn := rowF_get (n := 12) (f := w) hn12
    have hls : leftTo w (n + 1) = if w n < 0 then leftTo w n ||| 2 ^ n else leftTo w n := rfl
    refine ab_seq_k fun K29 h29 => ?_
    simp [uL, uL', hn12, hwn]
    refine ⟨by omega, h29 _ _ _ ?_⟩
    clear h29 K29
    by_cases hneg : w n < 0
    ·refine ab_cond_of rfl (fun _ => ?_) (fun h => by simp [hneg] at h)
     rw [if_pos hneg] at hls
     have hp : 2 ^ n < 2 ^ 16 := Nat.pow_lt_pow_right (by omega) (by omega)
     have e3 := shl_nat' (m := n) (by omega)
     have e4 := or_nat (a := leftTo w n) (b := 2 ^ n) hlt hp
     generalize 2 ^ n = q at *
     simp [e3]
     rw [e4, ← hls]
     exact hend _ rfl rfl rfl rfl rfl rfl
    ·refine ab_cond_of rfl (fun h => by simp [hneg] at h) (fun _ => ?_)
     rw [if_neg hneg] at hls
     simp
     exact hend _ rfl rfl (by rw [hls]; rfl) rfl rfl rfl
   ·have hnl : n = J.length := by simp at hc; omega
    subst hnl
    rw [← hlf]
    simp
    refine h22 _ _ _ (h20 _ _ _ ?_)
    clear h20 h22 h23 h25
    simp [ux, ux', ul, ul']
    refine msetK_new (n := 1) (k := [(i : Int)]) entsTo_ok um rfl entsTo_none ?_
    rw [← entsTo_succ]
    simp
    refine h16 _ _ _ ?_
    rw [← hKR]
    refine ⟨rfl, .inl ⟨⟨?_, List.getElem?_set_self hum, ?_, ?_, ug.setlt (by omega)⟩, ?_⟩⟩
    ·rw [List.getElem?_set_ne (by omega)]; exact uj
    ·rw [List.getElem?_set_ne (by omega)]; exact ul
    ·rw [List.getElem?_set_ne (by omega)]; exact ux
    ·rw [List.getElem?_set_ne (by omega)]; exact u4
  ·rintro σ2 ⟨hq, hq4⟩
   refine h14 _ _ _ (h12 _ _ _ ?_)
   clear h12 h14 hsm hq4
   have hbB : (byB J).length = J.length := by simp [byB]
   generalize left J = F at *
   generalize hE : entsTo F W = E at hq
   have hEok : MapOK 1 E W := by rw [← hE]; exact entsTo_ok
   have hEm : ∀ e ∈ E, ∃ s, s < W ∧ e = entS F s := fun e he => entsTo_mem.1 (by rw [hE]; exact he)
   obtain ⟨qj, qm, ql, qx, qg⟩ := hq
   obtain ⟨hqx, qx'⟩ := List.getElem?_eq_some_iff.1 qx
   obtain ⟨hql, ql'⟩ := List.getElem?_eq_some_iff.1 ql
   refine ab_seq_k fun K20 h20 => ?_
   refine ab_seq_k fun K21 h21 => ?_
   simp [qx, qx', ql, ql']
   refine rng_K qm ?_
   simp
   refine h21 _ _ _ ?_
   clear h21 K21
   have hbI : idOf b ≠ some σ2.length := fun e => by have := (qg.id_ge e).2; omega
   have hI4 : 4 ≤ σ2.length := by omega
   refine ab_block_k fun K22 h22 => ?_
   have qi0 : (σ2 ++ [O.it 1 W [] W])[σ2.length]? = some (.it 1 W [] W) := by simp
   have e0 : (E.filter (leftE F [])) = E := by rw [List.filter_eq_self]; intro e _; simp [leftE]
   have qH : HpH J f J.length b (E.filter (leftE F [])) W (σ2 ++ [O.it 1 W [] W]) := by rw [e0]; exact ⟨app_get qj, app_get qm, app_get ql, app_get qx, qg.app⟩
   clear e0 qj qm ql qx qg qx' ql' hqx hql
   generalize σ2 ++ [O.it 1 W [] W] = U at *
   generalize σ2.length = I at *
   clear σ2
   refine ab_loop_k (fun m env σ => ∃ seen : List Nat, (E.filter fun e => decide (e.1 ∉ seen)).length = m ∧ env = [(3, .p 3 0 0), (68, .p I 0 0)] ∧ HpH J f J.length b (E.filter (leftE F seen)) W σ ∧ σ[I]? = some (.it 1 W seen W)) _
    ⟨[], rfl, by simp, qH, qi0⟩ ?_
   clear qH qi0 U
   rintro m env σ ⟨seen, hm, rfl, ⟨qj, qm, ql, qx, qg⟩, qi⟩ K23 h23
   obtain ⟨hqx, qx'⟩ := List.getElem?_eq_some_iff.1 qx
   obtain ⟨hql, ql'⟩ := List.getElem?_eq_some_iff.1 ql
   obtain ⟨hqi, -⟩ := List.getElem?_eq_some_iff.1 qi
   have hFok := hEok.filter (p := leftE F seen)
   rw [ic96_3]
   refine ab_seq_k fun K24 h24 => ?_
   simp
   refine nxt_K qi qm ?_ ?_ ?_
   ·intro e he
    unfold mpV at he
    obtain ⟨x, hx, rfl⟩ := List.mem_map.1 he
    exact hFok.lt x hx
   ·intro hall
    simp
    refine h24 _ _ _ ?_
    refine ab_seq_k fun K25 h25 => ?_
    refine ab_cond_of rfl (fun h => by cases h) (fun _ => ?_)
    simp
    refine h22 _ _ _ (h20 _ _ _ ?_)
    clear h20 h22 h23 h24 h25
    have hev : (E.filter (leftE F seen)) = stuckE F W := by
     unfold stuckE
     rw [hE]
     refine List.filter_congr fun e he => ?_
     unfold leftE at hall ⊢
     cases hg : goodE F e with
     | true => simp
     | false =>
      by_cases hs : e.1 ∈ seen
      ·simp [hs]
      ·exfalso
       exact hs (hall _ (List.mem_map.2 ⟨e, List.mem_filter.2 ⟨he, by simp [hs]⟩, rfl⟩))
    rw [hev] at qm
    have hevp : ∀ e ∈ stuckE F W, e.2.2.pure = true := fun e he => by
     obtain ⟨s, -, rfl⟩ := entsTo_mem.1 (List.mem_filter.1 he).1
     rfl
    rw [List.take_of_length_le (by omega)] at qg
    refine ab_seq_k fun K26 h26 => ?_
    simp [qx, qx']
    refine h26 _ _ _ ?_
    simp
    refine fin_of 4 ?_
    simp [-frz, rs96]
    have h1 := frz_mp (k := 1) (n := 0) qm (Nat.zero_le _) hevp
    have h2 := frz_G' (kk := 1) qg (by simp)
    rw [frz_hp (k := 2) ql, h1, h2]
    show V.sp (hpC J f (.ss (us (byB J)) J.length _) (stV F W)) 0 = V.sp (hpC J f (.ss (us (byB J)) (byB J).length _) (stV F W)) 0
    rw [hbB]
   ·intro e he hns
    unfold mpV at he
    obtain ⟨e2, he2, rfl⟩ := List.mem_map.1 he
    clear he
    have he := he2
    clear he2
    simp only at hns
    obtain ⟨hef, hep⟩ := List.mem_filter.1 he
    obtain ⟨s, hs, rfl⟩ := hEm e2 hef
    have hns2 : s ∉ seen := hns
    have hfs := find_stamp hFok he
    simp only [entS] at hfs
    have uj : (σ.set I (O.it 1 W (seen ++ [s]) W))[0]? = some (.row 0 [slJ J f]) := by rw [List.getElem?_set_ne (by omega)]; exact qj
    have ux : (σ.set I (O.it 1 W (seen ++ [s]) W))[3]? = some (.row 0 [.p 2 0 0]) := by rw [List.getElem?_set_ne (by omega)]; exact qx
    have ul : (σ.set I (O.it 1 W (seen ++ [s]) W))[2]? = some (.row 0 (hpC J f b (.m 1))) := by rw [List.getElem?_set_ne (by omega)]; exact ql
    have um : (σ.set I (O.it 1 W (seen ++ [s]) W))[1]? = some (.map (mpV (E.filter (leftE F seen))) W) := by rw [List.getElem?_set_ne (by omega)]; exact qm
    have ui : (σ.set I (O.it 1 W (seen ++ [s]) W))[I]? = some (.it 1 W (seen ++ [s]) W) := List.getElem?_set_self hqi
    have ug : Gr 4 1 (σ.set I (O.it 1 W (seen ++ [s]) W)) b J.length (us ((byB J).take J.length)) := qg.set hbI
    simp [entS]
    generalize σ.set I (O.it 1 W (seen ++ [s]) W) = U at *
    refine h24 _ _ _ ?_
    clear h24 K24
    refine ab_seq_k fun K25 h25 => ?_
    refine ab_cond_of rfl (fun _ => ?_) (fun h => by cases h)
    simp
    refine h25 _ _ _ ?_
    clear h25 K25
    refine ab_block_k fun K26 h26 => ?_
    refine ab_seq_k fun K27 h27 => ?_
    simp
    refine ent_K ui um hfs ?_
    simp
    refine h27 _ _ _ ?_
    clear h27 K27
    have hm' : (E.filter fun e => decide (e.1 ∉ seen ++ [s])).length < m := by
     rw [← hm]
     have e : (E.filter fun e => decide (e.1 ∉ seen ++ [s])) = (E.filter fun e => decide (e.1 ∉ seen)).filter fun e => !decide (e.1 = s) := by
      rw [List.filter_filter]
      refine List.filter_congr (fun p _ => ?_)
      rw [Bool.eq_iff_iff]
      simp
      exact And.comm
     rw [e, List.length_filter_lt_length_iff_exists]
     exact ⟨_, List.mem_filter.2 ⟨hef, decide_eq_true hns2⟩, by simp [entS]⟩
    have vr : (U ++ [O.row 0 [V.i .u16 (s : Int)]])[U.length]? = some (O.row 0 [V.i .u16 (s : Int)]) := by simp
    have v0 : HpH J f J.length b (E.filter (leftE F seen)) W (U ++ [O.row 0 [V.i .u16 (s : Int)]]) := ⟨app_get uj, app_get um, app_get ul, app_get ux, ug.app⟩
    have vi := app_get (g := [O.row 0 [V.i .u16 (s : Int)]]) ui
    clear uj um ul ux ug ui qi qj qm ql qx qg qx' ql' hqx hql hqi σ
    generalize U ++ [O.row 0 [V.i .u16 (s : Int)]] = V' at *
    generalize U.length = ri at *
    clear U
    obtain ⟨vj, vm, vl, vx, vg⟩ := v0
    obtain ⟨hvx, vx'⟩ := List.getElem?_eq_some_iff.1 vx
    obtain ⟨hvl, vl'⟩ := List.getElem?_eq_some_iff.1 vl
    obtain ⟨hvr, vr'⟩ := List.getElem?_eq_some_iff.1 vr
    obtain ⟨hvm, -⟩ := List.getElem?_eq_some_iff.1 vm
    have hdone : ∀ env V'' E'', get env 3 = .p 3 0 0 → get env 68 = .p I 0 0 → E'' = (E.filter (leftE F (seen ++ [s]))) → HpH J f J.length b E'' W V'' → V''[I]? = some (.it 1 W (seen ++ [s]) W) → K26 (some 0) env V'' := by
     rintro env V'' E'' w3 w68 rfl a0 a4
     refine h26 _ _ _ (h23 _ _ _ (again _ hm' ⟨seen ++ [s], rfl, ?_, a0, a4⟩))
     simp [w3, w68]
    clear h26 h23
    have hgd : ∀ v, goodE F (s, [(s : Int)], v) = decide (F s ≠ 0) := fun v => rfl
    have huniq : ∀ p ∈ E, p.1 = s → p = entS F s := fun p hp h => by
     obtain ⟨s', hs', rfl⟩ := hEm p hp
     have : s' = s := h
     rw [this]
    refine ab_seq_k fun K28 h28 => ?_
    simp
    refine h28 _ _ _ ?_
    clear h28 K28
    by_cases hz : F s = 0
    ·refine ab_cond_of rfl (fun _ => ?_) (fun h => by simp [hz] at h)
     obtain ⟨j, s', hj, hfi⟩ := lk_some (lk_at hFok (List.mem_iff_getElem?.1 he).choose_spec)
     simp [abDs_consU, drU, recheck_cons, recheck_nil, rcK, IS.dst, vx, vx', vl, vl', vr, vr']
     refine mdelK_old (n := 1) (k := [(s : Int)]) (v := .u) hFok vm hfi rfl ?_
     simp [abDs_consU, drU, recheck_cons, recheck_nil, rcK, IS.dst]
     refine hdone _ _ _ rfl rfl ?_ ⟨by rw [List.getElem?_set_ne (by omega)]; exact vj, List.getElem?_set_self hvm, by rw [List.getElem?_set_ne (by omega)]; exact vl, by rw [List.getElem?_set_ne (by omega)]; exact vx, vg.setlt (by omega)⟩ (by rw [List.getElem?_set_ne (by omega)]; exact vi)
     rw [erase_filter hFok hfi, List.filter_filter]
     refine List.filter_congr fun p hp => ?_
     by_cases hps : p.1 = s
     ·rw [huniq p hp hps]
      simp [leftE, hgd, hz, entS]
     ·have hk : ¬ p.2.1 = [(s : Int)] := fun h => by
       obtain ⟨s', hs', rfl⟩ := hEm p hp
       simp [entS] at h hps
       omega
      simp [leftE, hk, hps, entS]
    ·refine ab_cond_of rfl (fun h => by simp at h; omega) (fun _ => ?_)
     simp
     refine hdone _ _ _ rfl rfl ?_ ⟨vj, vm, vl, vx, vg⟩ vi
     refine List.filter_congr fun p hp => ?_
     by_cases hps : p.1 = s
     ·rw [huniq p hp hps]
      simp [leftE, hgd, hz, entS]
     ·simp [leftE, hps]
end Go.Ab
end
