/- Jams: values, small functions, which are valid. -/
import Derived.Test.YtgndegccjhdmmaaGreatJH
set_option linter.unusedVariables false
set_option linter.unusedSimpArgs false
set_option maxHeartbeats 4000000
set_option maxRecDepth 100000
namespace Go.Ab
open Go Go.Proofs

/-- A log: its kind, those that hold it, whether that slice is a whole one. -/
abbrev Lg := Int × List Int × Bool
def lgV : List Lg → List V
  | [] => []
  | p :: r => .i .i64 p.1 :: sl p.2.1 p.2.2 :: lgV r
@[simp] theorem lgV_len : ∀ {l : List Lg}, (lgV l).length = l.length * 2
  | [] => rfl
  | p :: r => by simp [lgV, lgV_len (l := r)]; omega
theorem lgV_drop : ∀ {l : List Lg} {i : Nat}, (lgV l).drop (i * 2) = lgV (l.drop i)
  | [], i => by simp [lgV]
  | p :: r, 0 => by simp
  | p :: r, i + 1 => by
    rw [show (i + 1) * 2 = i * 2 + 1 + 1 by omega]
    simp only [lgV, List.drop_succ_cons]
    exact lgV_drop
theorem lgV_append {l m : List Lg} : lgV (l ++ m) = lgV l ++ lgV m := by
  induction l with
  | nil => rfl
  | cons p r ih => simp [lgV, ih]
theorem lgV_get {l : List Lg} {i : Nat} {p : Lg} (h : l[i]? = some p) : ((lgV l).drop (i * 2)).take 2 = [.i .i64 p.1, sl p.2.1 p.2.2] ∧ (lgV l)[i * 2]? = some (.i .i64 p.1) ∧ (lgV l)[i * 2 + 1]? = some (sl p.2.1 p.2.2) := by
  have hlt := (List.getElem?_eq_some_iff.1 h).1
  have hd : l.drop i = p :: l.drop (i + 1) := by
    rw [List.drop_eq_getElem_cons hlt]
    rw [List.getElem?_eq_getElem hlt] at h
    rw [Option.some.inj h]
  have e : (lgV l).drop (i * 2) = .i .i64 p.1 :: sl p.2.1 p.2.2 :: lgV (l.drop (i + 1)) := by rw [lgV_drop, hd]; rfl
  refine ⟨by rw [e]; rfl, ?_, ?_⟩
  · have := congrArg (·[0]?) e
    simpa [List.getElem?_drop] using this
  · have := congrArg (·[1]?) e
    simpa [List.getElem?_drop] using this
@[simp] theorem pure_lgV : ∀ {l : List Lg}, pureL (lgV l) = true
  | [] => rfl
  | p :: r => by simp [lgV, pure_lgV (l := r)]
abbrev slJ (l : List Lg) (f : Bool) : V := .ss (lgV l) l.length f
@[simp] theorem pure_slJ {l : List Lg} {f : Bool} : (slJ l f).pure = true := by simp [slJ]
abbrev jamV (J : List Lg) (f : Bool) : V := .agg [slJ J f]

/-- A list of strictly increasing logs, from one on. -/
def isLF (N : Int) : Int → List Int → Bool
  | _, [] => true
  | nx, x :: r => fit nx (N - 1) x && isLF N (x + 1) r
def isL (N : Int) (l : List Int) : Bool := isLF N 0 l
theorem isLF_mem {N : Int} : ∀ {l : List Int} {nx : Int}, isLF N nx l = true → ∀ x ∈ l, nx ≤ x ∧ x < N
  | [], _, _ => by simp
  | y :: r, nx, h => by
    simp only [isLF, fit, Bool.and_eq_true, decide_eq_true_eq] at h
    obtain ⟨⟨h1, h2⟩, h3⟩ := h
    intro x hx
    rcases List.mem_cons.1 hx with rfl | hx
    · omega
    · have := isLF_mem h3 x hx; omega
def checkJ (J : List Lg) : Int :=
  if J.length < 1 ∨ 12 < J.length then 6 else if (J.any fun l => !fit 0 1 l.1) then 3 else if (J.any fun l => !isL J.length l.2.1) then 2 else 0

/-! ### Sets -/
def setB (l : List Int) : Nat := l.foldl (fun s x => s ||| 2 ^ x.toNat) 0
def bl (s : Nat) : Nat → List Int
  | 0 => []
  | k + 1 => if s.testBit k then bl s k ++ [(k : Int)] else bl s k
theorem bl_len {s : Nat} : ∀ {k}, (bl s k).length ≤ k
  | 0 => by simp [bl]
  | k + 1 => by
    have := bl_len (s := s) (k := k)
    simp only [bl]; split
    · rw [List.length_append]; simp; omega
    · omega

theorem indexFuncJ {l : List Lg} {full : Bool} {g : FuncId} {first cap : List V} {p : Lg → Bool} (hg : ∀ x ∈ l, FSpec Tryz.prog g (first ++ [.agg [.i .i64 x.1, sl x.2.1 x.2.2]] ++ cap) [] (.b (p x)) []) (hl : (l.length : Int) < 1000000000) :
    FSpec Tryz.prog 101 [slJ l full, .f (.func g) first cap] [] (.i .i64 (match l.findIdx? p with | some i => (i : Int) | none => -1)) [] := by
  refine fn101.spec0 mixed noIt_ok ?_
  rw [ic101]
  refine ab_seq_k fun K1 h1 => ?_
  simp
  refine h1 _ _ _ ?_
  clear h1 K1
  refine ab_seq_k fun K2 h2 => ?_
  refine ab_seq_k fun K3 h3 => ?_
  simp
  refine h3 _ _ _ ?_
  clear h3 K3
  refine ab_block_k fun K4 h4 => ?_
  refine ab_loop_k (fun m env σ => ∃ i : Nat, i + m = l.length ∧ (∀ (j : Nat) (x : Lg), j < i → l[j]? = some x → p x = false) ∧ env = [(0, slJ l full), (1, .f (.func g) first cap), (7, .i .i64 l.length), (8, .i .i64 i)] ∧ σ = []) l.length ⟨0, by omega, by simp, by simp, rfl⟩ ?_
  rintro m env σ ⟨i, hi, hprev, rfl, rfl⟩ K5 h5
  rw [ic101_0]
  refine ab_seq_k fun K6 h6 => ?_
  simp
  refine h6 _ _ _ ?_
  clear h6 K6
  refine ab_seq_k fun K7 h7 => ?_
  refine ab_cond_of rfl (fun hc => ?_) (fun hc => ?_)
  · have hlt : i < l.length := by simp at hc; omega
    have hget : l[i]? = some l[i] := List.getElem?_eq_getElem hlt
    obtain ⟨e1, -, -⟩ := lgV_get hget
    have hmem := List.getElem_mem hlt
    generalize hx : l[i] = x at *
    have hle : i * 2 + 2 ≤ l.length * 2 := by omega
    simp
    refine h7 _ _ _ ?_
    refine ab_seq_k fun K8 h8 => ?_
    refine ab_block_k fun K9 h9 => ?_
    refine ab_seq_k fun K10 h10 => ?_
    simp
    refine h10 _ _ _ ?_
    refine ab_seq_k fun K11 h11 => ?_
    simp [hlt, hle, e1]
    refine callK_of (by simpa using hg x hmem) ?_
    simp
    refine h11 _ _ _ ?_
    refine ab_cond_of rfl (fun hp => ?_) (fun hp => ?_)
    · refine ab_seq_k fun K12 h12 => ?_
      simp
      refine h12 _ _ _ ?_
      have : l.findIdx? p = some i := by
        rw [List.findIdx?_eq_some_iff_getElem]
        exact ⟨hlt, by rw [hx]; exact hp, fun j hj => by have := hprev j _ hj (List.getElem?_eq_getElem (by omega)); simpa using this⟩
      simp [this]
      exact fin_of 1 (by simp [rs101])
    · simp
      refine h9 _ _ _ ?_
      refine h8 _ _ _ ?_
      simp [wrap64 (x := (i : Int) + 1) (by omega) (by omega)]
      refine h5 _ _ _ (again (m - 1) (by omega) ⟨i + 1, by omega, fun j y hj hy => ?_, by simp, rfl⟩)
      by_cases hji : j = i
      · subst hji; rw [hget] at hy; cases hy; exact hp
      · exact hprev j y (by omega) hy
  · have hlt : ¬ i < l.length := by simp at hc; omega
    simp
    refine h4 _ _ _ ?_
    refine h2 _ _ _ ?_
    refine ab_seq_k fun K8 h8 => ?_
    simp
    refine h8 _ _ _ ?_
    have : l.findIdx? p = none := by
      rw [List.findIdx?_eq_none_iff]
      intro x hx
      obtain ⟨j, hj⟩ := List.mem_iff_getElem?.1 hx
      have := (List.getElem?_eq_some_iff.1 hj).1
      exact hprev j x (by omega) hj
    simp [this]
    exact fin_of 1 (by simp [rs101])

theorem containsFuncJ {l : List Lg} {full : Bool} {g : FuncId} {first cap : List V} {p : Lg → Bool} (hg : ∀ x ∈ l, FSpec Tryz.prog g (first ++ [.agg [.i .i64 x.1, sl x.2.1 x.2.2]] ++ cap) [] (.b (p x)) []) (hl : (l.length : Int) < 1000000000) :
    FSpec Tryz.prog 70 [slJ l full, .f (.func g) first cap] [] (.b (l.any p)) [] := by
  refine fn70.spec0 mixed noIt_ok ?_
  rw [ic70]
  refine ab_seq_k fun K1 h1 => ?_
  simp
  refine h1 _ _ _ ?_
  refine ab_seq_k fun K2 h2 => ?_
  simp
  refine callK_of (indexFuncJ hg hl) ?_
  simp
  refine h2 _ _ _ ?_
  simp
  refine fin_of 1 ?_
  simp [rs70]
  cases h : l.findIdx? p with
  | none =>
    rw [List.findIdx?_eq_none_iff] at h
    have : l.any p = false := by rw [List.any_eq_false]; intro x hx; simp [h x hx]
    simpa using this
  | some i =>
    rw [List.findIdx?_eq_some_iff_getElem] at h
    obtain ⟨h1, h2, -⟩ := h
    have : l.any p = true := by rw [List.any_eq_true]; exact ⟨_, List.getElem_mem h1, h2⟩
    simpa using this



theorem has83 {s n : Nat} {σ : List O} (hs : s < 65536) (hn : n ≤ 16) : FSpec Tryz.prog 83 [.i .u16 s, .i .i64 n] σ (.b (s.testBit n)) σ := by
  refine FSpec.frame (σ := σ) ?_ rfl rfl
  refine fn83.spec0 mixed noIt_ok ?_
  rw [ic83]
  refine ab_seq_k fun K1 h1 => ?_
  simp
  refine h1 _ _ _ ?_
  clear h1 K1
  refine ab_seq_k fun K2 h2 => ?_
  have hb := bit_is hs hn
  simp
  rw [hb]
  refine h2 _ _ _ ?_
  simp
  refine fin_of 1 ?_
  simp [rs83]

theorem setB_snoc {l : List Int} {i : Nat} {x : Int} (h : l[i]? = some x) : setB (l.take (i + 1)) = setB (l.take i) ||| 2 ^ x.toNat := by
  unfold setB
  rw [List.take_add_one, h]
  simp [List.foldl_append]
theorem setB_lt {l : List Int} {k : Nat} (h : ∀ x ∈ l, 0 ≤ x ∧ x < k) : setB l < 2 ^ k := by
  have : ∀ (l : List Int) (s : Nat), s < 2 ^ k → (∀ x ∈ l, 0 ≤ x ∧ x < k) → l.foldl (fun s x => s ||| 2 ^ x.toNat) s < 2 ^ k := by
    intro l
    induction l with
    | nil => intro s h _; exact h
    | cons x l ih =>
      intro s hs hx
      refine ih _ (Nat.or_lt_two_pow hs ?_) (fun y hy => hx y (List.mem_cons_of_mem _ hy))
      have := hx x (List.mem_cons_self ..)
      exact Nat.pow_lt_pow_right (by omega) (by omega)
  exact this l 0 (Nat.two_pow_pos k) h
theorem setOf64 {l : List Int} {f : Bool} (h : ∀ x ∈ l, 0 ≤ x ∧ x < (12 : Nat)) (hl : l.length ≤ 1000000) : FSpec Tryz.prog 64 [sl l f] [] (.i .u16 (setB l)) [] := by
  refine fn64.spec0 mixed noIt_ok ?_
  rw [ic64]
  refine ab_seq_k fun K1 h1 => ?_
  simp
  refine h1 _ _ _ ?_
  clear h1 K1
  refine ab_seq_k fun K2 h2 => ?_
  simp
  refine h2 _ _ _ ?_
  clear h2 K2
  refine ab_seq_k fun K3 h3 => ?_
  refine ab_seq_k fun K4 h4 => ?_
  simp
  refine h4 _ _ _ ?_
  clear h4 K4
  refine ab_block_k fun K5 h5 => ?_
  refine ab_loop_k (fun m env σ => ∃ i : Nat, i + m = l.length ∧ env = [(3, .i .u16 (setB (l.take i))), (6, sl l f), (7, .i .i64 l.length), (8, .i .i64 i)] ∧ σ = []) l.length ⟨0, by omega, by simp [setB], rfl⟩ ?_
  rintro m env σ ⟨i, hi, rfl, rfl⟩ K6 h6
  rw [ic64_0]
  refine ab_seq_k fun K7 h7 => ?_
  simp
  refine h7 _ _ _ ?_
  clear h7 K7
  refine ab_seq_k fun K8 h8 => ?_
  refine ab_cond_of rfl (fun hc => ?_) (fun hc => ?_)
  · have hlt : i < l.length := by simp at hc; omega
    obtain ⟨e1, e2, hm⟩ := getD_get hlt
    generalize l.getD i 0 = x at *
    obtain ⟨h1, h2⟩ := h x hm
    obtain ⟨n, rfl⟩ : ∃ n : Nat, x = n := ⟨x.toNat, by omega⟩
    have hb : setB (l.take i) < 2 ^ 12 := setB_lt (fun x hx => h x (List.mem_of_mem_take hx))
    have hn : n < 12 := by omega
    have hp : 2 ^ n < 2 ^ 12 := Nat.pow_lt_pow_right (by omega) hn
    have hs := setB_snoc e1
    rw [Int.toNat_natCast] at hs
    have e3 := shl_nat' (m := n) (by omega)
    have e4 := or_nat (a := setB (l.take i)) (b := 2 ^ n) (by omega) (by omega)
    generalize 2 ^ n = p at *
    simp
    refine h8 _ _ _ ?_
    clear h8 K8
    refine ab_seq_k fun K9 h9 => ?_
    refine ab_block_k fun K10 h10 => ?_
    refine ab_seq_k fun K11 h11 => ?_
    simp [hlt, e2]
    refine h11 _ _ _ ?_
    clear h11 K11
    simp [e3]
    rw [e4, ← hs]
    refine h10 _ _ _ (h9 _ _ _ ?_)
    simp [wrap64 (x := (i : Int) + 1) (by omega) (by omega)]
    exact h6 _ _ _ (again (m - 1) (by omega) ⟨i + 1, by omega, by simp, rfl⟩)
  · have hlt : l.length ≤ i := by simp at hc; omega
    simp
    rw [List.take_of_length_le hlt]
    refine h5 _ _ _ (h3 _ _ _ ?_)
    refine ab_seq_k fun K12 h12 => ?_
    simp
    refine h12 _ _ _ ?_
    clear h12 K12
    simp
    exact fin_of 1 (by simp [rs64])

theorem list68 {s : Nat} {σ : List O} (hs : s < 65536) : FSpec Tryz.prog 68 [.i .u16 s] σ (sl (bl s 12) ((bl s 12).length == 0)) σ := by
  refine FSpec.frame (σ := σ) ?_ rfl (by simp)
  refine fn68.spec0 mixed noIt_ok ?_
  rw [ic68]
  refine ab_seq_k fun K1 h1 => ?_
  simp
  refine h1 _ _ _ ?_
  clear h1 K1
  refine ab_seq_k fun K2 h2 => ?_
  simp
  refine h2 _ _ _ ?_
  clear h2 K2
  refine ab_seq_k fun K3 h3 => ?_
  refine ab_seq_k fun K4 h4 => ?_
  simp
  refine h4 _ _ _ ?_
  clear h4 K4
  refine ab_block_k fun K5 h5 => ?_
  refine ab_loop_k (fun m env σ => ∃ (i : Nat) (v : V), i + m = 12 ∧ env = [(0, .i .u16 s), (3, v), (5, .i .i64 i)] ∧ Gr 0 1 σ v (bl s i).length (ints (bl s i))) 12 ⟨0, .ss [] 0 true, by omega, by simp, by simpa [bl, ints] using Gr.nil⟩ ?_
  rintro m env σ ⟨i, v, hi, rfl, hv⟩ K6 h6
  rw [ic68_0]
  refine ab_seq_k fun K7 h7 => ?_
  simp
  refine h7 _ _ _ ?_
  clear h7 K7
  refine ab_seq_k fun K8 h8 => ?_
  refine ab_cond_of rfl (fun hc => ?_) (fun hc => ?_)
  · have hlt : i < 12 := by simp at hc; omega
    simp
    refine h8 _ _ _ ?_
    clear h8 K8
    refine ab_seq_k fun K9 h9 => ?_
    refine ab_block_k fun K10 h10 => ?_
    refine ab_seq_k fun K11 h11 => ?_
    simp
    refine h11 _ _ _ ?_
    clear h11 K11
    have hend : ∀ env σ v, get env 0 = .i .u16 s → get env 3 = v → get env 5 = .i .i64 i → Gr 0 1 σ v (bl s (i + 1)).length (ints (bl s (i + 1))) → K10 (some 0) env σ := by
      intro env σ v w0 w3 w5 hg
      refine h10 _ _ _ (h9 _ _ _ ?_)
      simp [w0, w3, w5, wrap64 (x := (i : Int) + 1) (by omega) (by omega)]
      exact h6 _ _ _ (again (m - 1) (by omega) ⟨i + 1, v, by omega, by simp, hg⟩)
    clear h9 h10 h6
    refine ab_seq_k fun K12 h12 => ?_
    simp
    refine callK_of (has83 hs (by omega)) ?_
    simp
    refine h12 _ _ _ ?_
    clear h12 K12
    have hbl := bl_len (s := s) (k := i)
    cases hb : s.testBit i with
    | false =>
      refine ab_cond_of rfl (fun h => by cases h) (fun _ => ?_)
      simp
      exact hend _ _ _ rfl rfl rfl (by simpa [bl, hb] using hv)
    | true =>
      refine ab_cond_of rfl (fun _ => ?_) (fun h => by cases h)
      simp
      refine appG hv (by omega) (by omega) (by omega) rfl ?_
      intro v' σ' hv' hgr
      simp
      exact hend _ _ _ rfl rfl rfl (by simpa [bl, hb, ints] using hv')
  · have hlt : i = 12 := by simp at hc; omega
    subst hlt
    simp
    refine h5 _ _ _ (h3 _ _ _ ?_)
    refine ab_seq_k fun K13 h13 => ?_
    simp
    refine h13 _ _ _ ?_
    clear h13 K13
    simp
    refine fin_of 2 ?_
    simp [-frz, rs68]
    rw [frz_G hv (by simp)]

theorem isList73 {J : List Lg} {fJ : Bool} {l : List Int} {f : Bool} {σ : List O} (hJ : J.length ≤ 1000000) (hl : (l.length : Int) < 1000000000) : FSpec Tryz.prog 73 [jamV J fJ, sl l f] σ (.b (isL J.length l)) σ := by
  refine FSpec.frame (σ := σ) ?_ (by simp) rfl
  refine fn73.spec0 mixed noIt_ok ?_
  rw [ic73]
  refine ab_seq_k fun K1 h1 => ?_
  simp
  refine h1 _ _ _ ?_
  clear h1 K1
  refine ab_seq_k fun K2 h2 => ?_
  simp
  refine h2 _ _ _ ?_
  clear h2 K2
  refine ab_seq_k fun K3 h3 => ?_
  refine ab_seq_k fun K4 h4 => ?_
  simp
  refine h4 _ _ _ ?_
  clear h4 K4
  refine ab_block_k fun K5 h5 => ?_
  refine ab_loop_k (fun m env σ => ∃ (i : Nat) (nx : Int), i + m = l.length ∧ isL J.length l = isLF J.length nx (l.drop i) ∧ 0 ≤ nx ∧ nx ≤ J.length ∧ env = [(2, .p 0 0 0), (5, .i .i64 nx), (8, sl l f), (9, .i .i64 l.length), (10, .i .i64 i)] ∧ σ = [.row 0 [slJ J fJ]]) l.length ⟨0, 0, by omega, rfl, by omega, by omega, by simp, rfl⟩ ?_
  rintro m env σ ⟨i, nx, hi, hr, hn0, hn1, rfl, rfl⟩ K6 h6
  rw [ic73_0]
  refine ab_seq_k fun K7 h7 => ?_
  simp
  refine h7 _ _ _ ?_
  clear h7 K7
  refine ab_seq_k fun K8 h8 => ?_
  refine ab_cond_of rfl (fun hc => ?_) (fun hc => ?_)
  · have hlt : i < l.length := by simp at hc; omega
    obtain ⟨e1, e2, hm⟩ := getD_get hlt
    rw [List.drop_eq_getElem_cons hlt, e2] at hr
    generalize l.getD i 0 = x at *
    simp only [isLF] at hr
    simp
    refine h8 _ _ _ ?_
    clear h8 K8
    refine ab_seq_k fun K9 h9 => ?_
    refine ab_block_k fun K10 h10 => ?_
    refine ab_seq_k fun K11 h11 => ?_
    simp [hlt, e2]
    refine h11 _ _ _ ?_
    clear h11 K11
    refine ab_seq_k fun K12 h12 => ?_
    refine ab_seq_k fun K13 h13 => ?_
    simp [wrap64 (x := (J.length : Int) - 1) (by omega) (by omega)]
    refine callK_of within0 ?_
    simp
    refine h13 _ _ _ ?_
    clear h13 K13
    cases hf : fit nx (J.length - 1) x with
    | false =>
      rw [hf] at hr
      refine ab_cond_of rfl (fun _ => ?_) (fun h => by cases h)
      refine ab_seq_k fun K14 h14 => ?_
      simp
      refine h14 _ _ _ ?_
      clear h14 K14
      simp
      refine fin_of 1 ?_
      simp [rs73, hr]
    | true =>
      rw [hf] at hr
      refine ab_cond_of rfl (fun h => by cases h) (fun _ => ?_)
      simp only [fit, Bool.and_eq_true, decide_eq_true_eq] at hf
      simp
      refine h12 _ _ _ ?_
      simp [wrap64 (x := x + 1) (by omega) (by omega)]
      refine h10 _ _ _ (h9 _ _ _ ?_)
      simp [wrap64 (x := (i : Int) + 1) (by omega) (by omega)]
      exact h6 _ _ _ (again (m - 1) (by omega) ⟨i + 1, x + 1, by omega, by simpa using hr, by omega, by omega, by simp, rfl⟩)
  · have hlt : l.length ≤ i := by simp at hc; omega
    rw [List.drop_of_length_le hlt] at hr
    simp
    refine h5 _ _ _ (h3 _ _ _ ?_)
    refine ab_seq_k fun K15 h15 => ?_
    simp
    refine h15 _ _ _ ?_
    clear h15 K15
    simp
    refine fin_of 1 ?_
    simp [rs73, hr, isLF]

theorem fn71ok {x : Lg} : FSpec Tryz.prog 71 [.agg [.i .i64 x.1, sl x.2.1 x.2.2]] [] (.b (!fit 0 1 x.1)) [] := by
  refine fn71.spec0 mixed noIt_ok ?_
  rw [ic71]
  refine ab_seq_k fun K1 h1 => ?_
  simp
  refine h1 _ _ _ ?_
  clear h1 K1
  refine ab_seq_k fun K2 h2 => ?_
  simp
  refine callK_of within0 ?_
  simp
  refine h2 _ _ _ ?_
  simp
  exact fin_of 1 (by simp [rs71])

theorem fn72ok {J : List Lg} {fJ : Bool} {x : Lg} (hJ : J.length ≤ 1000000) (hl : (x.2.1.length : Int) < 1000000000) : FSpec Tryz.prog 72 [.agg [.i .i64 x.1, sl x.2.1 x.2.2], .sp [slJ J fJ] 0] [] (.b (!isL J.length x.2.1)) [] := by
  refine fn72.spec0 mixed noIt_ok ?_
  rw [ic72]
  refine ab_seq_k fun K1 h1 => ?_
  simp
  refine h1 _ _ _ ?_
  clear h1 K1
  refine ab_seq_k fun K2 h2 => ?_
  simp
  refine callK_of (isList73 hJ hl) ?_
  simp
  refine h2 _ _ _ ?_
  simp
  exact fin_of 1 (by simp [rs72])

theorem check23 {J : List Lg} {fJ : Bool} {σ : List O} (hJ : J.length ≤ 1000000) (hl : ∀ x ∈ J, (x.2.1.length : Int) < 1000000000) : FSpec Tryz.prog 23 [jamV J fJ] σ (.i .i64 (checkJ J)) σ := by
  refine FSpec.frame (σ := σ) ?_ (by simp) rfl
  refine fn23.spec0 mixed noIt_ok ?_
  rw [ic23]
  refine ab_seq_k fun K1 h1 => ?_
  simp
  refine h1 _ _ _ ?_
  clear h1 K1
  refine ab_seq_k fun K2 h2 => ?_
  refine ab_block_k fun K3 h3 => ?_
  refine ab_seq_k fun K4 h4 => ?_
  simp
  refine callK_of within0 ?_
  simp
  refine h4 _ _ _ ?_
  clear h4 K4
  cases hf : fit 1 12 (J.length : Int) with
  | false =>
    refine ab_cond_of rfl (fun _ => ?_) (fun h => by cases h)
    refine ab_seq_k fun K5 h5 => ?_
    simp
    refine h5 _ _ _ ?_
    clear h5 K5
    simp
    refine fin_of 1 ?_
    have hv : checkJ J = 6 := by
      unfold checkJ
      simp only [fit, Bool.and_eq_false_iff, decide_eq_false_iff_not] at hf
      rw [if_pos (by omega)]
    simp [rs23, hv]
  | true =>
    have hv0 : ¬ (J.length < 1 ∨ 12 < J.length) := by simp only [fit, Bool.and_eq_true, decide_eq_true_eq] at hf; omega
    refine ab_cond_of rfl (fun h => by cases h) (fun _ => ?_)
    refine ab_seq_k fun K6 h6 => ?_
    simp
    refine callK_of (FSpec.frozen 3 (v := .b (J.any fun l => !fit 0 1 l.1)) ?_ rfl) ?_
    · simp
      exact containsFuncJ (g := 71) (first := []) (cap := []) (fun x _ => fn71ok) (by omega)
    simp
    refine h6 _ _ _ ?_
    clear h6 K6
    cases h1 : J.any (fun l => !fit 0 1 l.1) with
    | true =>
      refine ab_cond_of rfl (fun _ => ?_) (fun h => by cases h)
      refine ab_seq_k fun K7 h7 => ?_
      simp
      refine h7 _ _ _ ?_
      clear h7 K7
      simp
      refine fin_of 1 ?_
      have hv : checkJ J = 3 := by unfold checkJ; rw [if_neg hv0, h1]; rfl
      simp [rs23, hv]
    | false =>
      refine ab_cond_of rfl (fun h => by cases h) (fun _ => ?_)
      refine ab_seq_k fun K8 h8 => ?_
      simp
      refine callK_of (FSpec.frozen 3 (v := .b (J.any fun l => !isL J.length l.2.1)) ?_ rfl) ?_
      · simp
        exact containsFuncJ (g := 72) (first := []) (cap := [.sp [slJ J fJ] 0]) (fun x hx => fn72ok hJ (hl x hx)) (by omega)
      simp
      refine h8 _ _ _ ?_
      clear h8 K8
      cases h2' : J.any (fun l => !isL J.length l.2.1) with
      | true =>
        refine ab_cond_of rfl (fun _ => ?_) (fun h => by cases h)
        refine ab_seq_k fun K9 h9 => ?_
        simp
        refine h9 _ _ _ ?_
        clear h9 K9
        simp
        refine fin_of 1 ?_
        have hv : checkJ J = 2 := by unfold checkJ; rw [if_neg hv0, h1, h2']; rfl
        simp [rs23, hv]
      | false =>
        refine ab_cond_of rfl (fun h => by cases h) (fun _ => ?_)
        simp
        refine h3 _ _ _ (h2 _ _ _ ?_)
        refine ab_seq_k fun K10 h10 => ?_
        simp
        refine h10 _ _ _ ?_
        clear h10 K10
        simp
        refine fin_of 1 ?_
        have hv : checkJ J = 0 := by unfold checkJ; rw [if_neg hv0, h1, h2']; rfl
        simp [rs23, hv]
end Go.Ab
