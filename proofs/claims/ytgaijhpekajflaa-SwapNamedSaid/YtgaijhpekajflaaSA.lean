/- Small functions of swap, and what is generic of slices. -/
import Derived.Test.YtgaijhpekajflaaAbU
import Derived.Test.YtgaijhpekajflaaC6
import Derived.Test.YtgaijhpekajflaaG1
set_option linter.unusedVariables false
set_option linter.unusedSimpArgs false
set_option maxHeartbeats 4000000
namespace Go.Ab
open Go Go.Proofs

def ints (l : List Int) : List V := l.map (V.i .i64)
/-- A slice of whole numbers. -/
abbrev sl (l : List Int) (f : Bool) : V := .ss (ints l) l.length f

@[simp] theorem pure_ints {l : List Int} : pureL (ints l) = true := by
  induction l with
  | nil => rfl
  | cons a l ih => simp [ints] at ih ⊢; exact ih
@[simp] theorem pure_sl {l : List Int} {f : Bool} : (sl l f).pure = true := by simp [sl]
@[simp] theorem len_ints {l : List Int} : (ints l).length = l.length := by simp [ints]
@[simp high] theorem get_ints {l : List Int} {i : Nat} : (ints l)[i]? = l[i]?.map (V.i .i64) := by simp [ints]

theorem wrap64 {x : Int} (h1 : -9223372036854775808 ≤ x) (h2 : x < 9223372036854775808) : IntKind.i64.wrap x = x := by
  simp only [IntKind.wrap, IntKind.bits, IntKind.signed]
  simp
  split <;> omega

theorem within1 {x lo hi : Int} : FSpec Try.prog 78 [.i .i64 x, .sp [.i .i64 lo] 0, .sp [.i .i64 hi] 0] [] (.b (decide (x < lo) || decide (hi < x))) [] := by
  refine fn78.spec0 mixed noIt_ok ?_
  rw [ic78]
  refine ab_seq_k fun K1 h1 => ?_
  simp
  refine h1 _ _ _ (ab_seq_k fun K2 h2 => ?_)
  by_cases h : x < lo <;> simp [h] <;> (refine h2 _ _ _ ?_; simp; exact fin_of 1 (by simp [rs78, h]))

def inv88 (l : List Int) (full : Bool) (g : FuncId) (first cap : List V) (p : Int → Bool) (m : Nat) (env : Env) (σ : List O) : Prop :=
  ∃ i : Nat, i + m = l.length ∧ (∀ (j : Nat) (x : Int), j < i → l[j]? = some x → p x = false) ∧ env = [(0, sl l full), (1, .f (.func g) first cap), (7, .i .i64 l.length), (8, .i .i64 i)] ∧ σ = []

theorem indexFunc {l : List Int} {full : Bool} {g : FuncId} {first cap : List V} {p : Int → Bool} (hg : ∀ x ∈ l, FSpec Try.prog g (first ++ [.i .i64 x] ++ cap) [] (.b (p x)) []) (hl : (l.length : Int) < 1000000000) :
    FSpec Try.prog 88 [sl l full, .f (.func g) first cap] [] (.i .i64 (match l.findIdx? p with | some i => (i : Int) | none => -1)) [] := by
  refine fn88.spec0 mixed noIt_ok ?_
  rw [ic88]
  refine ab_seq_k fun K1 h1 => ?_
  simp
  refine h1 _ _ _ (ab_seq_k fun K2 h2 => ab_seq_k fun K3 h3 => ?_)
  simp
  refine h3 _ _ _ (ab_block_k fun K4 h4 => ab_loop_k (inv88 l full g first cap p) l.length ⟨0, by simp, by simp, by simp, rfl⟩ ?_)
  rintro m env σ ⟨i, hi, hprev, rfl, rfl⟩ K5 h5
  rw [ic88_0]
  refine ab_seq_k fun K6 h6 => ?_
  simp
  refine h6 _ _ _ (ab_seq_k fun K7 h7 => ?_)
  by_cases hlt : i < l.length
  · refine ab_cond_of rfl (fun _ => ?_) (fun h => by simp at h; omega)
    have hget : l[i]? = some l[i] := List.getElem?_eq_getElem hlt
    have hmem := List.getElem_mem hlt
    generalize hx : l[i] = x at hget hmem
    simp
    refine h7 _ _ _ (ab_seq_k fun K8 h8 => ab_block_k fun K9 h9 => ab_seq_k fun K10 h10 => ?_)
    simp
    refine h10 _ _ _ (ab_seq_k fun K11 h11 => ?_)
    simp [hlt, hx]
    refine callK_of (by simpa using hg x hmem) ?_
    simp
    refine h11 _ _ _ (ab_cond_of rfl (fun hp => ?_) (fun hp => ?_))
    · refine ab_seq_k fun K12 h12 => ?_
      simp
      refine h12 _ _ _ ?_
      have : l.findIdx? p = some i := by
        rw [List.findIdx?_eq_some_iff_getElem]
        exact ⟨hlt, by rw [hx]; exact hp, fun j hj => by have := hprev j _ hj (List.getElem?_eq_getElem (by omega)); simpa using this⟩
      simp [this]
      exact fin_of 1 (by simp [rs88])
    · simp
      refine h9 _ _ _ (h8 _ _ _ ?_)
      simp [wrap64 (x := (i : Int) + 1) (by omega) (by omega)]
      refine h5 _ _ _ (again (m - 1) (by omega) ⟨i + 1, by omega, fun j y hj hy => ?_, by simp, rfl⟩)
      by_cases hji : j = i
      · subst hji; rw [hget] at hy; cases hy; exact hp
      · exact hprev j y (by omega) hy
  · refine ab_cond_of rfl (fun h => by simp at h; omega) (fun _ => ?_)
    simp
    refine h4 _ _ _ (h2 _ _ _ (ab_seq_k fun K8 h8 => ?_))
    simp
    refine h8 _ _ _ ?_
    have : l.findIdx? p = none := by
      rw [List.findIdx?_eq_none_iff]
      intro x hx
      obtain ⟨j, hj⟩ := List.mem_iff_getElem?.1 hx
      have := (List.getElem?_eq_some_iff.1 hj).1
      exact hprev j x (by omega) hj
    simp [this]
    exact fin_of 1 (by simp [rs88])

theorem containsFunc {l : List Int} {full : Bool} {g : FuncId} {first cap : List V} {p : Int → Bool} (hg : ∀ x ∈ l, FSpec Try.prog g (first ++ [.i .i64 x] ++ cap) [] (.b (p x)) []) (hl : (l.length : Int) < 1000000000) :
    FSpec Try.prog 77 [sl l full, .f (.func g) first cap] [] (.b (l.any p)) [] := by
  refine fn77.spec0 mixed noIt_ok ?_
  rw [ic77]
  refine ab_seq_k fun K1 h1 => ?_
  simp
  refine h1 _ _ _ (ab_seq_k fun K2 h2 => ?_)
  simp
  refine callK_of (indexFunc hg hl) ?_
  simp
  refine h2 _ _ _ ?_
  simp
  refine fin_of 1 ?_
  simp [rs77]
  cases h : l.findIdx? p with
  | none =>
    rw [List.findIdx?_eq_none_iff] at h
    simp
    intro x hx
    exact h x hx
  | some i =>
    rw [List.findIdx?_eq_some_iff_getElem] at h
    obtain ⟨h1, h2, -⟩ := h
    simp
    exact ⟨_, List.getElem_mem h1, h2⟩

theorem any_not {l : List Int} {lo hi : Int} : (l.any fun x => decide (x < lo) || decide (hi < x)) = !(l.all fun x => decide (lo ≤ x) && decide (x ≤ hi)) := by
  induction l with
  | nil => rfl
  | cons x l ih =>
    simp only [List.any_cons, List.all_cons, ih, Bool.not_and]
    congr 1
    by_cases h1 : x < lo <;> by_cases h2 : hi < x <;> simp [h1, h2] <;> omega

theorem within {l : List Int} {full : Bool} {lo hi : Int} (hl : (l.length : Int) < 1000000000) : FSpec Try.prog 58 [.i .i64 lo, .i .i64 hi, sl l full] [] (.b (l.all fun x => decide (lo ≤ x) && decide (x ≤ hi))) [] := by
  refine fn58.spec0 mixed noIt_ok ?_
  rw [ic58]
  refine ab_seq_k fun K1 h1 => ?_
  simp
  refine h1 _ _ _ (ab_seq_k fun K2 h2 => ?_)
  simp
  refine callK_of (FSpec.frozen 3 (v := .b (!(l.all fun x => decide (lo ≤ x) && decide (x ≤ hi)))) ?_ rfl) ?_
  · simp only [← any_not]
    simp
    exact containsFunc (g := 78) (first := []) (cap := [.sp [.i .i64 lo] 0, .sp [.i .i64 hi] 0]) (fun x _ => within1) hl
  · simp
    refine h2 _ _ _ ?_
    simp
    exact fin_of 1 (by simp [rs58])


def inv86 (l : List Int) (full : Bool) (g : FuncId) (first cap : List V) (p : Int → Bool) (m : Nat) (env : Env) (σ : List O) : Prop :=
  ∃ i : Nat, i + m = l.length ∧ (∀ (j : Nat) (x : Int), j < i → l[j]? = some x → p x = false) ∧ env = [(0, sl l full), (1, .f (.func g) first cap), (7, .i .i64 l.length), (8, .i .i64 i)] ∧ σ = []

theorem indexFuncI {l : List Int} {full : Bool} {g : FuncId} {first cap : List V} {p : Int → Bool} (hg : ∀ x ∈ l, FSpec Try.prog g (first ++ [.i .i64 x] ++ cap) [] (.b (p x)) []) (hl : (l.length : Int) < 1000000000) :
    FSpec Try.prog 86 [sl l full, .f (.func g) first cap] [] (.i .i64 (match l.findIdx? p with | some i => (i : Int) | none => -1)) [] := by
  refine fn86.spec0 mixed noIt_ok ?_
  rw [ic86]
  refine ab_seq_k fun K1 h1 => ?_
  simp
  refine h1 _ _ _ (ab_seq_k fun K2 h2 => ab_seq_k fun K3 h3 => ?_)
  simp
  refine h3 _ _ _ (ab_block_k fun K4 h4 => ab_loop_k (inv86 l full g first cap p) l.length ⟨0, by simp, by simp, by simp, rfl⟩ ?_)
  rintro m env σ ⟨i, hi, hprev, rfl, rfl⟩ K5 h5
  rw [ic86_0]
  refine ab_seq_k fun K6 h6 => ?_
  simp
  refine h6 _ _ _ (ab_seq_k fun K7 h7 => ?_)
  by_cases hlt : i < l.length
  · refine ab_cond_of rfl (fun _ => ?_) (fun h => by simp at h; omega)
    have hget : l[i]? = some l[i] := List.getElem?_eq_getElem hlt
    have hmem := List.getElem_mem hlt
    generalize hx : l[i] = x at hget hmem
    simp
    refine h7 _ _ _ (ab_seq_k fun K8 h8 => ab_block_k fun K9 h9 => ab_seq_k fun K10 h10 => ?_)
    simp
    refine h10 _ _ _ (ab_seq_k fun K11 h11 => ?_)
    simp [hlt, hx]
    refine callK_of (by simpa using hg x hmem) ?_
    simp
    refine h11 _ _ _ (ab_cond_of rfl (fun hp => ?_) (fun hp => ?_))
    · refine ab_seq_k fun K12 h12 => ?_
      simp
      refine h12 _ _ _ ?_
      have : l.findIdx? p = some i := by
        rw [List.findIdx?_eq_some_iff_getElem]
        exact ⟨hlt, by rw [hx]; exact hp, fun j hj => by have := hprev j _ hj (List.getElem?_eq_getElem (by omega)); simpa using this⟩
      simp [this]
      exact fin_of 1 (by simp [rs86])
    · simp
      refine h9 _ _ _ (h8 _ _ _ ?_)
      simp [wrap64 (x := (i : Int) + 1) (by omega) (by omega)]
      refine h5 _ _ _ (again (m - 1) (by omega) ⟨i + 1, by omega, fun j y hj hy => ?_, by simp, rfl⟩)
      by_cases hji : j = i
      · subst hji; rw [hget] at hy; cases hy; exact hp
      · exact hprev j y (by omega) hy
  · refine ab_cond_of rfl (fun h => by simp at h; omega) (fun _ => ?_)
    simp
    refine h4 _ _ _ (h2 _ _ _ (ab_seq_k fun K8 h8 => ?_))
    simp
    refine h8 _ _ _ ?_
    have : l.findIdx? p = none := by
      rw [List.findIdx?_eq_none_iff]
      intro x hx
      obtain ⟨j, hj⟩ := List.mem_iff_getElem?.1 hx
      have := (List.getElem?_eq_some_iff.1 hj).1
      exact hprev j x (by omega) hj
    simp [this]
    exact fin_of 1 (by simp [rs86])

theorem containsFuncI {l : List Int} {full : Bool} {g : FuncId} {first cap : List V} {p : Int → Bool} (hg : ∀ x ∈ l, FSpec Try.prog g (first ++ [.i .i64 x] ++ cap) [] (.b (p x)) []) (hl : (l.length : Int) < 1000000000) :
    FSpec Try.prog 66 [sl l full, .f (.func g) first cap] [] (.b (l.any p)) [] := by
  refine fn66.spec0 mixed noIt_ok ?_
  rw [ic66]
  refine ab_seq_k fun K1 h1 => ?_
  simp
  refine h1 _ _ _ (ab_seq_k fun K2 h2 => ?_)
  simp
  refine callK_of (indexFuncI hg hl) ?_
  simp
  refine h2 _ _ _ ?_
  simp
  refine fin_of 1 ?_
  simp [rs66]
  cases h : l.findIdx? p with
  | none =>
    rw [List.findIdx?_eq_none_iff] at h
    simp
    intro x hx
    exact h x hx
  | some i =>
    rw [List.findIdx?_eq_some_iff_getElem] at h
    obtain ⟨h1, h2, -⟩ := h
    simp
    exact ⟨_, List.getElem_mem h1, h2⟩


def fit (lo hi x : Int) : Bool := decide (lo ≤ x) && decide (x ≤ hi)


theorem within0 {x lo hi : Int} {σ : List O} : FSpec Try.prog 58 [.i .i64 lo, .i .i64 hi, .ss [.i .i64 x] 1 true] σ (.b (fit lo hi x)) σ := by
  have h := FSpec.frame (σ := σ) (within (l := [x]) (full := true) (lo := lo) (hi := hi) (by simp)) (by simp) rfl
  have e : (.b ([x].all fun x => decide (lo ≤ x) && decide (x ≤ hi)) : V) = .b (fit lo hi x) := by simp [fit]
  rw [e] at h
  exact h



theorem getD_get {l : List Int} {i : Nat} (h : i < l.length) : l[i]? = some (l.getD i 0) ∧ l[i]'h = l.getD i 0 ∧ l.getD i 0 ∈ l := by
  have h1 : l[i]? = some (l.getD i 0) := by rw [List.getD_eq_getElem?_getD, List.getElem?_eq_getElem h]; rfl
  refine ⟨h1, ?_, List.mem_of_getElem? h1⟩
  rw [List.getElem?_eq_getElem h] at h1
  exact Option.some.inj h1



def lsV : List (Int × Int) → List V
  | [] => []
  | p :: r => .i .i64 p.1 :: .i .i64 p.2 :: lsV r
@[simp] theorem lsV_len : ∀ {l : List (Int × Int)}, (lsV l).length = l.length * 2
  | [] => rfl
  | p :: r => by simp [lsV, lsV_len (l := r)]; omega
theorem lsV_drop : ∀ {l : List (Int × Int)} {i : Nat}, (lsV l).drop (i * 2) = lsV (l.drop i)
  | [], i => by simp [lsV]
  | p :: r, 0 => by simp
  | p :: r, i + 1 => by
    rw [show (i + 1) * 2 = i * 2 + 1 + 1 by omega]
    simp only [lsV, List.drop_succ_cons]
    exact lsV_drop
theorem lsV_append {l m : List (Int × Int)} : lsV (l ++ m) = lsV l ++ lsV m := by
  induction l with
  | nil => rfl
  | cons p r ih => simp [lsV, ih]
theorem lsV_get {l : List (Int × Int)} {i : Nat} {p : Int × Int} (h : l[i]? = some p) : ((lsV l).drop (i * 2)).take 2 = [.i .i64 p.1, .i .i64 p.2] ∧ (lsV l)[i * 2]? = some (.i .i64 p.1) ∧ (lsV l)[i * 2 + 1]? = some (.i .i64 p.2) := by
  have hlt := (List.getElem?_eq_some_iff.1 h).1
  have hd : l.drop i = p :: l.drop (i + 1) := by
    rw [List.drop_eq_getElem_cons hlt]
    rw [List.getElem?_eq_getElem hlt] at h
    rw [Option.some.inj h]
  have e : (lsV l).drop (i * 2) = .i .i64 p.1 :: .i .i64 p.2 :: lsV (l.drop (i + 1)) := by rw [lsV_drop, hd]; rfl
  refine ⟨by rw [e]; rfl, ?_, ?_⟩
  · have := congrArg (·[0]?) e
    simpa [List.getElem?_drop] using this
  · have := congrArg (·[1]?) e
    simpa [List.getElem?_drop] using this
@[simp] theorem pure_lsV : ∀ {l : List (Int × Int)}, pureL (lsV l) = true
  | [] => rfl
  | p :: r => by simp [lsV, pure_lsV (l := r)]
abbrev slL (l : List (Int × Int)) (f : Bool) : V := .ss (lsV l) l.length f
@[simp] theorem pure_slL {l : List (Int × Int)} {f : Bool} : (slL l f).pure = true := by simp [slL]


abbrev Db := Int × Int × Int
def lsD : List (Db) → List V
  | [] => []
  | p :: r => .i .i64 p.1 :: .i .i64 p.2.1 :: .i .i64 p.2.2 :: lsD r
@[simp] theorem lsD_len : ∀ {l : List (Db)}, (lsD l).length = l.length * 3
  | [] => rfl
  | p :: r => by simp [lsD, lsD_len (l := r)]; omega
theorem lsD_drop : ∀ {l : List (Db)} {i : Nat}, (lsD l).drop (i * 3) = lsD (l.drop i)
  | [], i => by simp [lsD]
  | p :: r, 0 => by simp
  | p :: r, i + 1 => by
    rw [show (i + 1) * 3 = i * 3 + 1 + 1 + 1 by omega]
    simp only [lsD, List.drop_succ_cons]
    exact lsD_drop
theorem lsD_append {l m : List (Db)} : lsD (l ++ m) = lsD l ++ lsD m := by
  induction l with
  | nil => rfl
  | cons p r ih => simp [lsD, ih]
theorem lsD_get {l : List (Db)} {i : Nat} {p : Db} (h : l[i]? = some p) : ((lsD l).drop (i * 3)).take 3 = [.i .i64 p.1, .i .i64 p.2.1, .i .i64 p.2.2] ∧ (lsD l)[i * 3]? = some (.i .i64 p.1) ∧ (lsD l)[i * 3 + 1]? = some (.i .i64 p.2.1) ∧ (lsD l)[i * 3 + 2]? = some (.i .i64 p.2.2) := by
  have hlt := (List.getElem?_eq_some_iff.1 h).1
  have hd : l.drop i = p :: l.drop (i + 1) := by
    rw [List.drop_eq_getElem_cons hlt]
    rw [List.getElem?_eq_getElem hlt] at h
    rw [Option.some.inj h]
  have e : (lsD l).drop (i * 3) = .i .i64 p.1 :: .i .i64 p.2.1 :: .i .i64 p.2.2 :: lsD (l.drop (i + 1)) := by rw [lsD_drop, hd]; rfl
  refine ⟨by rw [e]; rfl, ?_, ?_, ?_⟩
  · have := congrArg (·[0]?) e
    simpa [List.getElem?_drop] using this
  · have := congrArg (·[1]?) e
    simpa [List.getElem?_drop] using this
  · have := congrArg (·[2]?) e
    simpa [List.getElem?_drop] using this
@[simp] theorem pure_lsD : ∀ {l : List (Db)}, pureL (lsD l) = true
  | [] => rfl
  | p :: r => by simp [lsD, pure_lsD (l := r)]
abbrev slD (l : List (Db)) (f : Bool) : V := .ss (lsD l) l.length f
@[simp] theorem pure_slD {l : List (Db)} {f : Bool} : (slD l f).pure = true := by simp [slD]

theorem indexFuncD {l : List (Db)} {full : Bool} {g : FuncId} {first cap : List V} {p : Db → Bool} (hg : ∀ x, FSpec Try.prog g (first ++ [.agg [.i .i64 x.1, .i .i64 x.2.1, .i .i64 x.2.2]] ++ cap) [] (.b (p x)) []) (hl : (l.length : Int) < 1000000000) :
    FSpec Try.prog 89 [slD l full, .f (.func g) first cap] [] (.i .i64 (match l.findIdx? p with | some i => (i : Int) | none => -1)) [] := by
  refine fn89.spec0 mixed noIt_ok ?_
  rw [ic89]
  refine ab_seq_k fun K1 h1 => ?_
  simp
  refine h1 _ _ _ ?_
  clear h1 K1
  refine ab_seq_k fun K2 h2 => ?_
  refine ab_seq_k fun K3 h3 => ?_
  simp
  refine h3 _ _ _ ?_
  clear h3 K3
  refine ab_block_k fun K4 h4 => ?_
  refine ab_loop_k (fun m env σ => ∃ i : Nat, i + m = l.length ∧ (∀ (j : Nat) (x : Db), j < i → l[j]? = some x → p x = false) ∧ env = [(0, slD l full), (1, .f (.func g) first cap), (7, .i .i64 l.length), (8, .i .i64 i)] ∧ σ = []) l.length ⟨0, by omega, by simp, by simp, rfl⟩ ?_
  rintro m env σ ⟨i, hi, hprev, rfl, rfl⟩ K5 h5
  rw [ic89_0]
  refine ab_seq_k fun K6 h6 => ?_
  simp
  refine h6 _ _ _ ?_
  clear h6 K6
  refine ab_seq_k fun K7 h7 => ?_
  refine ab_cond_of rfl (fun hc => ?_) (fun hc => ?_)
  · have hlt : i < l.length := by simp at hc; omega
    have hget : l[i]? = some l[i] := List.getElem?_eq_getElem hlt
    obtain ⟨e1, -, -, -⟩ := lsD_get hget
    have hmem := List.getElem_mem hlt
    generalize hx : l[i] = x at *
    have hle : i * 3 + 3 ≤ l.length * 3 := by omega
    simp
    refine h7 _ _ _ ?_
    refine ab_seq_k fun K8 h8 => ?_
    refine ab_block_k fun K9 h9 => ?_
    refine ab_seq_k fun K10 h10 => ?_
    simp
    refine h10 _ _ _ ?_
    refine ab_seq_k fun K11 h11 => ?_
    simp [hlt, hle, e1]
    refine callK_of (by simpa using hg x) ?_
    simp
    refine h11 _ _ _ ?_
    refine ab_cond_of rfl (fun hp => ?_) (fun hp => ?_)
    · refine ab_seq_k fun K12 h12 => ?_
      simp
      refine h12 _ _ _ ?_
      have : l.findIdx? p = some i := by
        rw [List.findIdx?_eq_some_iff_getElem]
        exact ⟨hlt, by rw [hx]; exact hp, fun j hj => by have := hprev j _ hj (List.getElem?_eq_getElem (by omega)); simpa using this⟩
      simp [this]
      exact fin_of 1 (by simp [rs89])
    · simp
      refine h9 _ _ _ ?_
      refine h8 _ _ _ ?_
      simp [wrap64 (x := (i : Int) + 1) (by omega) (by omega)]
      refine h5 _ _ _ (again (m - 1) (by omega) ⟨i + 1, by omega, fun j y hj hy => ?_, by simp, rfl⟩)
      by_cases hji : j = i
      · subst hji; rw [hget] at hy; cases hy; exact hp
      · exact hprev j y (by omega) hy
  · have hlt : ¬ i < l.length := by simp at hc; omega
    simp
    refine h4 _ _ _ ?_
    refine h2 _ _ _ ?_
    refine ab_seq_k fun K8 h8 => ?_
    simp
    refine h8 _ _ _ ?_
    have : l.findIdx? p = none := by
      rw [List.findIdx?_eq_none_iff]
      intro x hx
      obtain ⟨j, hj⟩ := List.mem_iff_getElem?.1 hx
      have := (List.getElem?_eq_some_iff.1 hj).1
      exact hprev j x (by omega) hj
    simp [this]
    exact fin_of 1 (by simp [rs89])

theorem containsFuncD {l : List (Db)} {full : Bool} {g : FuncId} {first cap : List V} {p : Db → Bool} (hg : ∀ x, FSpec Try.prog g (first ++ [.agg [.i .i64 x.1, .i .i64 x.2.1, .i .i64 x.2.2]] ++ cap) [] (.b (p x)) []) (hl : (l.length : Int) < 1000000000) :
    FSpec Try.prog 80 [slD l full, .f (.func g) first cap] [] (.b (l.any p)) [] := by
  refine fn80.spec0 mixed noIt_ok ?_
  rw [ic80]
  refine ab_seq_k fun K1 h1 => ?_
  simp
  refine h1 _ _ _ ?_
  refine ab_seq_k fun K2 h2 => ?_
  simp
  refine callK_of (indexFuncD hg hl) ?_
  simp
  refine h2 _ _ _ ?_
  simp
  refine fin_of 1 ?_
  simp [rs80]
  cases h : l.findIdx? p with
  | none =>
    rw [List.findIdx?_eq_none_iff] at h
    have : l.any p = false := by rw [List.any_eq_false]; intro x hx; simp [h x hx]
    simpa using this
  | some i =>
    rw [List.findIdx?_eq_some_iff_getElem] at h
    obtain ⟨h1, h2, -⟩ := h
    have : l.any p = true := by rw [List.any_eq_true]; exact ⟨_, List.getElem_mem h1, h2⟩
    simpa using this



theorem ints_set {l : List Int} {i : Nat} {x : Int} : (ints l).set i (.i .i64 x) = ints (l.set i x) := by simp [ints, List.map_set]

theorem frz_ints {k n id ver : Nat} {σ : List O} {l : List Int} (h : σ[id]? = some (.row ver (ints l))) (hn : n ≤ id) : frz (k + 2) n σ (.s id ver 0 l.length 1) = .ss (ints l) l.length false := by
  rw [frz]
  simp only [V.pure, Bool.false_eq_true, if_false, Nat.not_lt.2 hn, h]
  rw [if_pos ⟨trivial, by simp⟩]
  congr 1
  have e : List.take (l.length * 1) (List.drop 0 (ints l)) = ints l := by rw [Nat.mul_one, List.drop_zero]; exact List.take_of_length_le (by simp)
  rw [e, map_frz pure_ints]


theorem frzO_pure {k n ver : Nat} {σ : List O} {cells : List V} (h : pureL cells = true) : frzO (k + 1) n σ (.row ver cells) = .row ver cells := by
  simp only [frzO]; rw [map_frz h]

def PureO (o : O) : Prop := ∃ ver cells, o = .row ver cells ∧ pureL cells = true
theorem frzS_pureL {k : Nat} {base g : List O} (h : ∀ o ∈ base, PureO o) : frzS (k + 1) base.length (base ++ g) = base := by
  rw [frzS, List.take_left]
  have : base.map (frzO (k + 1) base.length (base ++ g)) = base.map id := List.map_congr_left (fun o ho => by
    obtain ⟨ver, cells, rfl, hp⟩ := h o ho
    exact frzO_pure hp)
  rw [this, List.map_id]


theorem frz_two {σ : List O} {v w : V} {e : Int} (h2 : frz 2 0 σ v = w) : frz 3 0 σ (.tup [v, .i .i64 e]) = .tup [w, .i .i64 e] := by
  rw [frz]
  split
  · rename_i hp
    simp only [V.pure, pureL, Bool.and_eq_true] at hp
    have : frz 2 0 σ v = v := frz_pure hp.1
    rw [← h2, this]
  · simp only [List.map_cons, List.map_nil, h2]
    rw [frz_pure rfl]


theorem app_get {σ g : List O} {i : Nat} {o : O} (h : σ[i]? = some o) : (σ ++ g)[i]? = some o := by
  rw [List.getElem?_append_left (List.getElem?_eq_some_iff.1 h).1]; exact h

theorem pureO_row {ver : Nat} {cells : List V} (h : pureL cells = true) : PureO (.row ver cells) := ⟨ver, cells, rfl, h⟩
theorem frz_agg2 {σ : List O} {a b a' b' : V} (h1 : frz 2 0 σ a = a') (h2 : frz 2 0 σ b = b') : frz 3 0 σ (.agg [a, b]) = .agg [a', b'] := by
  rw [frz]
  split
  · rename_i hp
    simp only [V.pure, pureL, Bool.and_eq_true] at hp
    have e1 : frz 2 0 σ a = a := frz_pure hp.1
    have e2 : frz 2 0 σ b = b := frz_pure hp.2.1
    rw [← h1, ← h2, e1, e2]
  · simp only [List.map_cons, List.map_nil, h1, h2]


theorem flat_ints {l : List Int} : flatL (ints l) = true := by
  induction l with
  | nil => rfl
  | cons x l ih => simpa [ints] using ih


theorem set_app0 {σ : List O} {x y : O} : (σ ++ [x]).set σ.length y = σ ++ [y] := by
  rw [List.set_append_right _ _ (Nat.le_refl _)]; simp


end Go.Ab
