import Derived.Test.YthcbimgdbhkikaaS2
import Derived.Test.YthcbimgdbhkikaaS1
import Derived.Test.YthcbimgdbhkikaaC6
/-! S3: made of UC UD UE UF -/
section
/- What best cuttings scale from each place on (plain). -/
set_option linter.unusedVariables false
set_option linter.unusedSimpArgs false
namespace Go.Ab
open Go Go.Proofs

section
variable {P : Program} {Y : Yield} {n0 : Nat}
def drU (P : Program) (Y : Yield) (n0 : Nat) (s : IS) (us : List Nat) (r : List (IS × List Nat)) (j : Nat) (pend : List (IS × Env × V × List Nat)) (K : Kt) (md : Md) (env : Env) (σ : List O) (md' : Md) (env' : Env) (σ' : List O) : Prop :=
  md' = md ∧ (s.loud = false → σ' = σ) ∧ recheck P Y n0 j pend md σ' ∧ abDs P Y n0 r (j + 1) (if us.isEmpty then pend else (s, env, (match s.dst with | some d => get env' d | none => .u), us) :: pend) K md' env' σ'
theorem abDs_consU {s : IS} {us : List Nat} {r : List (IS × List Nat)} {j : Nat} {pend : List (IS × Env × V × List Nat)} {K : Kt} {md : Md} {env : Env} {σ : List O} : abDs P Y n0 ((s, us) :: r) j pend K md env σ = abS P Y n0 s (drU P Y n0 s us r j pend K md env σ) md env σ := (rfl)
def rcK (md : Md) (env : Env) (d : Option Nat) (v : V) (σ : List O) (md' : Md) (env' : Env) (σ' : List O) : Prop := md' = md ∧ env' = put env d v ∧ σ' = σ
theorem recheck_cons {s : IS} {env : Env} {v : V} {us : List Nat} {r : List (IS × Env × V × List Nat)} {j : Nat} {md : Md} {σ : List O} :
    recheck P Y n0 j ((s, env, v, us) :: r) md σ = ((if us.contains j then abS P Y n0 s (rcK md env s.dst v σ) md env σ else True) ∧ recheck P Y n0 j r md σ) := (rfl)
theorem recheck_nil {j : Nat} {md : Md} {σ : List O} : recheck P Y n0 j [] md σ = True := (rfl)
end



section
variable (sc : Nat → Nat → Int) (lt : Nat → Nat → Bool)
/-- The greatest one, of logs from i that end at one of the first j places behind. -/
def acc (vn : Nat → Int) (i : Nat) : Nat → Int
  | 0 => vn (i + 1)
  | j + 1 => if 0 < sc i (i + 1 + j) ∧ lt i (i + 1 + j) = true then max (acc vn i j) (sc i (i + 1 + j) + vn (i + 1 + j)) else acc vn i j
def vals (L : Nat) : Nat → List Int
  | 0 => [0]
  | k + 1 => acc sc lt (fun m => (vals L k).getD (m - (L - k)) 0) (L - (k + 1)) (k + 1) :: vals L k
def val (L i : Nat) : Int := (vals sc lt L L).getD i 0
end

section
variable {sc : Nat → Nat → Int} {lt : Nat → Nat → Bool}
theorem vals_len {L : Nat} : ∀ {k : Nat}, (vals sc lt L k).length = k + 1
  | 0 => rfl
  | k + 1 => by simp [vals, vals_len (k := k)]
theorem vals_drop {L k : Nat} : ∀ {j : Nat}, (vals sc lt L (k + j)).drop j = vals sc lt L k
  | 0 => rfl
  | j + 1 => by rw [show k + (j + 1) = (k + j) + 1 by omega, vals, List.drop_succ_cons, vals_drop]
theorem vals_get {L k j : Nat} (h : k ≤ L) : (vals sc lt L k).getD j 0 = val sc lt L (L - k + j) := by
  have h1 := vals_drop (sc := sc) (lt := lt) (L := L) (k := k) (j := L - k)
  rw [show k + (L - k) = L by omega] at h1
  rw [← h1, val]
  simp only [List.getD_eq_getElem?_getD, List.getElem?_drop]
theorem acc_congr {vn vn' : Nat → Int} {i : Nat} : ∀ {j : Nat}, vn (i + 1) = vn' (i + 1) → (∀ m, i < m → m ≤ i + j → vn m = vn' m) → acc sc lt vn i j = acc sc lt vn' i j
  | 0, h, _ => h
  | j + 1, h0, h => by
    have := acc_congr (j := j) h0 (fun m h1 h2 => h m h1 (by omega))
    simp only [acc, this, h (i + 1 + j) (by omega) (by omega)]
theorem val_last {L : Nat} : val sc lt L L = 0 := by
  have := vals_get (sc := sc) (lt := lt) (L := L) (k := 0) (j := 0) (by omega)
  simpa [vals] using this.symm
theorem val_rec {L i : Nat} (h : i < L) : val sc lt L i = acc sc lt (val sc lt L) i (L - i) := by
  have h1 := vals_get (sc := sc) (lt := lt) (L := L) (k := L - i) (j := 0) (by omega)
  rw [show L - (L - i) + 0 = i by omega] at h1
  rw [← h1]
  obtain ⟨k, hk⟩ : ∃ k, L - i = k + 1 := ⟨L - i - 1, by omega⟩
  rw [hk, vals]
  simp only [List.getD_cons_zero]
  rw [show L - (k + 1) = i by omega]
  have e : ∀ m, i < m → m ≤ i + (k + 1) → (vals sc lt L k).getD (m - (L - k)) 0 = val sc lt L m := by
    intro m h1 h2
    rw [vals_get (by omega)]
    congr 1
    omega
  refine acc_congr (e _ (by omega) (by omega)) e

theorem acc_le {vn : Nat → Int} {i L : Nat} {M : Int} (hM : 0 ≤ M) (hs : ∀ a b, sc a b ≤ M) (hv : ∀ m, i < m → m ≤ L → 0 ≤ vn m ∧ vn m ≤ ((L - m : Nat) : Int) * M) : ∀ {j : Nat}, i + j ≤ L → i < L → 0 ≤ acc sc lt vn i j ∧ acc sc lt vn i j ≤ ((L - i : Nat) : Int) * M
  | 0, _, h => by
    obtain ⟨h1, h2⟩ := hv (i + 1) (by omega) (by omega)
    refine ⟨h1, Int.le_trans h2 (Int.mul_le_mul_of_nonneg_right (by omega) hM)⟩
  | j + 1, hj, h => by
    obtain ⟨h1, h2⟩ := acc_le hM hs hv (j := j) (by omega) h
    simp only [acc]
    split
    · rename_i hc
      obtain ⟨h3, h4⟩ := hv (i + 1 + j) (by omega) (by omega)
      have h5 := hs i (i + 1 + j)
      have h6 : ((L - (i + 1 + j) : Nat) : Int) * M ≤ ((L - (i + 1) : Nat) : Int) * M := Int.mul_le_mul_of_nonneg_right (by omega) hM
      have h7 : ((L - i : Nat) : Int) * M = ((L - (i + 1) : Nat) : Int) * M + M := by
        rw [show ((L - i : Nat) : Int) = ((L - (i + 1) : Nat) : Int) + 1 by omega, Int.add_mul, Int.one_mul]
      omega
    · exact ⟨h1, h2⟩

theorem val_le {L : Nat} {M : Int} (hM : 0 ≤ M) (hs : ∀ a b, sc a b ≤ M) : ∀ {k i : Nat}, L - i = k → i ≤ L → 0 ≤ val sc lt L i ∧ val sc lt L i ≤ ((L - i : Nat) : Int) * M := by
  intro k
  induction k using Nat.strongRecOn with
  | ind k ih =>
    intro i hk hi
    by_cases h : i < L
    · rw [val_rec h]
      exact acc_le hM hs (fun m h1 h2 => ih (L - m) (by omega) rfl h2) (by omega) h
    · have : i = L := by omega
      subst this
      rw [val_last]
      simp
end

/-! ### Logs that are let -/
def scN (t b : List Int) (r : Ru) (i j : Nat) : Int := scaleP t b r i j
theorem scN_bounds {t b : List Int} {r : Ru} (hr : RuB r) (hv : ∀ x ∈ t, 0 ≤ x ∧ x ≤ 60) {i j : Nat} : 0 ≤ scN t b r i j ∧ scN t b r i j ≤ 216000 := by
  have h0 := scaleP_nonneg (t := t) (b := b) (x := i) (y := j) hr
  refine ⟨h0, ?_⟩
  have := hr.l1
  have := hr.m
  have := hr.d1
  have := hr.o1
  unfold scN scaleP
  split
  · omega
  · split
    · omega
    · rename_i h
      have h1 : ¬ ((j : Int) - i - r.trim < r.least) := fun h' => h (.inl h')
      have h2 : ¬ (r.most < (j : Int) - i - r.trim) := fun h' => h (.inr (.inl h'))
      have hx : 0 ≤ t.getD (j : Int).toNat 0 ∧ t.getD (j : Int).toNat 0 ≤ 60 := by
        by_cases hl : (j : Int).toNat < t.length
        · exact hv _ (getD_get hl).2.2
        · rw [List.getD_eq_getElem?_getD, List.getElem?_eq_none (by omega)]; simp
      obtain ⟨b1, b2, b3, b4⟩ := over_bound (lo := (j : Int) - i - r.trim) (d := 0) hx.1 hx.2 this (by omega) (by omega)
      refine Int.le_trans (Int.ediv_le_self _ b3) b4

/-- Which logs are let. -/
structure Lt2 where
  over : Int
  at_ : Int
def Lt2.lets (l : Lt2) (x y : Int) : Bool := !(decide (x < l.over) && decide (l.over < y)) && decide (x ≠ l.at_) && decide (y ≠ l.at_)
def Lt2.letsN (l : Lt2) (i j : Nat) : Bool := l.lets i j
def allL : Lt2 := ⟨-1, -1⟩
theorem allL_lets {i j : Nat} : allL.letsN i j = true := by
  have h1 : ¬ (i : Int) < -1 := by omega
  have h2 : (i : Int) ≠ -1 := by omega
  have h3 : (j : Int) ≠ -1 := by omega
  simp only [Lt2.letsN, Lt2.lets, allL, h1, h2, h3, decide_false, Bool.false_and, Bool.not_false, Bool.true_and, ne_eq, not_false_eq_true, decide_true]

/-- What a best cutting of logs that are let scales from a place on. -/
def restN (t b : List Int) (r : Ru) (l : Lt2) (i : Nat) : Int := val (scN t b r) l.letsN (t.length - 1) i
theorem restN_le {t b : List Int} {r : Ru} {l : Lt2} (hr : RuB r) (hv : ∀ x ∈ t, 0 ≤ x ∧ x ≤ 60) (h61 : t.length ≤ 61) {i : Nat} (hi : i ≤ t.length - 1) : 0 ≤ restN t b r l i ∧ restN t b r l i ≤ 12960000 := by
  obtain ⟨h1, h2⟩ := val_le (sc := scN t b r) (lt := l.letsN) (L := t.length - 1) (M := 216000) (by omega) (fun a c => (scN_bounds hr hv).2) rfl hi
  refine ⟨h1, Int.le_trans h2 ?_⟩
  have : ((t.length - 1 - i : Nat) : Int) ≤ 60 := by omega
  omega

/-- Numbers of places from lo on. -/
def outA (n : Nat) (f : Nat → Int) (lo : Nat) : List Int := (List.range n).map fun i => if lo ≤ i then f i else 0
@[simp] theorem outA_len {n f lo} : (outA n f lo).length = n := by simp [outA]
theorem outA_get {n f lo i} (h : i < n) : (outA n f lo)[i]? = some (if lo ≤ i then f i else 0) := by
  simp [outA, h]
theorem outA_set {n f lo} (h : lo < n) : (outA n f (lo + 1)).set lo (f lo) = outA n f lo := by
  apply List.ext_getElem?
  intro i
  by_cases hi : i < n
  · by_cases hl : i = lo
    · subst hl
      rw [List.getElem?_set_self (by simpa using hi), outA_get hi, if_pos (Nat.le_refl _)]
    · rw [List.getElem?_set_ne (fun hE => hl hE.symm), outA_get hi, outA_get hi]
      have : (lo + 1 ≤ i) ↔ (lo ≤ i) := by omega
      simp only [this]
  · rw [List.getElem?_eq_none (by simp; omega), List.getElem?_eq_none (by simp; omega)]
theorem outA_last {n f} (h : 1 ≤ n) (hf : f (n - 1) = 0) : outA n f (n - 1) = List.replicate n 0 := by
  apply List.ext_getElem?
  intro i
  by_cases hi : i < n
  · rw [outA_get hi, List.getElem?_replicate, if_pos hi]
    split
    · rw [show i = n - 1 by omega, hf]
    · rfl
  · rw [List.getElem?_eq_none (by simp; omega), List.getElem?_eq_none (by simp; omega)]
theorem outA_zero {n f} : outA n f 0 = (List.range n).map f := by simp [outA]
end Go.Ab
end

section
/- The reference's Rest: what best cuttings scale from each place on. -/
set_option linter.unusedVariables false
set_option linter.unusedSimpArgs false
set_option maxHeartbeats 4000000
namespace Go.Ab
open Go Go.Proofs

theorem refLets {l : Lt2} {x y : Int} : FSpec Try.prog 83 [.agg [.i .i64 l.over, .i .i64 l.at_], .i .i64 x, .i .i64 y] [] (.b (l.lets x y)) [] := by
  refine fn83.spec0 mixed noIt_ok ?_
  rw [ic83]
  refine ab_seq_k fun K1 h1 => ?_
  simp
  refine h1 _ _ _ ?_
  clear h1 K1
  refine ab_seq_k fun K2 h2 => ?_
  have c1 : ∀ {env σ v}, get env 6 = .b v → v = l.lets x y → K2 (some 0) env σ := by
    intro env σ v e1 hv
    refine h2 _ _ _ ?_
    simp
    exact fin_of 1 (by simp [rs83, e1, hv])
  clear h2
  simp
  repeat' (refine opG_split (fun c => ?_) (fun c => ?_) <;> simp [c])
  all_goals
    apply c1
    · rfl
    first | (simp_all [Lt2.lets]; done) | (simp_all [Lt2.lets]; omega) | (rw [Bool.eq_iff_iff]; simp_all [Lt2.lets]; omega)

/-- Valid stems and rules. -/
structure Ok (t b : List Int) (r : Ru) : Prop where
  n2 : 2 ≤ t.length
  n61 : t.length ≤ 61
  tv : ∀ x ∈ t, 0 ≤ x ∧ x ≤ 60
  bl : (b.length : Int) < 1000000000
  r : RuB r

def hpR (t b : List Int) (ft fb : Bool) (r : Ru) (l : Lt2) (out : List Int) : List O :=
  [.row 0 [sl t ft, sl b fb], .row 0 r.cells, .row 0 [.i .i64 l.over, .i .i64 l.at_], .row 0 (ints out)]

def inv64_1 (t b : List Int) (ft fb : Bool) (r : Ru) (l : Lt2) (m : Nat) (env : Env) (σ : List O) : Prop :=
  m ≤ t.length - 1 ∧ env = [(3, .p 0 0 0), (4, .p 1 0 0), (5, .p 2 0 0), (7, .s 3 0 0 t.length 1), (8, .i .i64 ((m : Int) - 1))] ∧ σ = hpR t b ft fb r l (outA t.length (restN t b r l) m)
def inv64_0 (t b : List Int) (ft fb : Bool) (r : Ru) (l : Lt2) (at_ : Nat) (m : Nat) (env : Env) (σ : List O) : Prop :=
  ∃ j : Nat, j + m = t.length - 1 - at_ ∧ env = [(3, .p 0 0 0), (4, .p 1 0 0), (5, .p 2 0 0), (7, .s 3 0 0 t.length 1), (8, .i .i64 at_), (9, .i .i64 ((at_ : Int) + 1 + j))] ∧
    σ = hpR t b ft fb r l ((outA t.length (restN t b r l) (at_ + 1)).set at_ (acc (scN t b r) l.letsN (restN t b r l) at_ j))

theorem ints_set {l : List Int} {i : Nat} {x : Int} : (ints l).set i (.i .i64 x) = ints (l.set i x) := by simp [ints, List.map_set]

theorem frz_ints {k n id ver : Nat} {σ : List O} {l : List Int} (h : σ[id]? = some (.row ver (ints l))) (hn : n ≤ id) : frz (k + 2) n σ (.s id ver 0 l.length 1) = .ss (ints l) l.length false := by
  rw [frz]
  simp only [V.pure, Bool.false_eq_true, if_false, Nat.not_lt.2 hn, h]
  rw [if_pos ⟨trivial, by simp⟩]
  congr 1
  have e : List.take (l.length * 1) (List.drop 0 (ints l)) = ints l := by rw [Nat.mul_one, List.drop_zero]; exact List.take_of_length_le (by simp)
  rw [e, map_frz pure_ints]

theorem refRest {t b : List Int} {ft fb : Bool} {r : Ru} {l : Lt2} (ok : Ok t b r) :
    FSpec Try.prog 64 [.agg [sl t ft, sl b fb], .agg r.cells, .agg [.i .i64 l.over, .i .i64 l.at_]] [] (.ss (ints ((List.range t.length).map (restN t b r l))) t.length false) [] := by
  obtain ⟨n2, n61, tv, bl, hr⟩ := ok
  have h7 : List.take 7 r.cells = r.cells := rfl
  have hrest0 : restN t b r l (t.length - 1) = 0 := val_last
  refine fn64.spec0 mixed noIt_ok ?_
  rw [ic64]
  refine ab_seq_k fun K1 h1 => ?_
  simp
  refine h1 _ _ _ ?_
  clear h1 K1
  refine ab_seq_k fun K2 h2 => ?_
  have hrep : rep t.length [V.i .i64 0] = ints (List.replicate t.length 0) := by simp [rep, ints, List.flatten_replicate_singleton]
  simp
  refine ⟨by omega, by omega, h2 _ _ _ ?_⟩
  clear h2 K2
  rw [hrep, ← outA_last (f := restN t b r l) (by omega) hrest0]
  refine ab_seq_k fun K3 h3 => ?_
  refine ab_seq_k fun K4 h4 => ?_
  simp
  refine callK_of (FSpec.frame (refLong (x := sl b fb) (by omega)) (by simp) rfl) ?_
  simp [wrap64 (x := (t.length : Int) - 1 - 1) (by omega) (by omega)]
  refine h4 _ _ _ ?_
  clear h4 K4
  refine ab_block_k fun K5 h5 => ?_
  refine ab_loop_k (inv64_1 t b ft fb r l) (t.length - 1) ⟨Nat.le_refl _, by simp; omega, rfl⟩ ?_
  rintro m env σ ⟨hm, rfl, rfl⟩ K6 h6
  rw [ic64_1]
  refine ab_seq_k fun K7 h7' => ?_
  refine ab_seq_k fun K8 h8 => ?_
  simp
  refine h8 _ _ _ ?_
  refine ab_cond_of rfl (fun hc => ?_) (fun hc => ?_)
  · obtain ⟨a, rfl⟩ : ∃ a, m = a + 1 := ⟨m - 1, by simp at hc; omega⟩
    have e1 : ((a + 1 : Nat) : Int) - 1 = a := by omega
    rw [e1]
    have g1 := outA_get (n := t.length) (f := restN t b r l) (lo := a + 1) (i := a + 1) (by omega)
    simp only [Nat.le_refl, if_true] at g1
    simp
    refine h7' _ _ _ ?_
    refine ab_seq_k fun K9 h9 => ?_
    refine ab_block_k fun K10 h10 => ?_
    refine ab_seq_k fun K11 h11 => ?_
    have e2 : ((a : Int) + 1).toNat = a + 1 := by omega
    have e3 : (a : Int) + 1 < t.length := by omega
    have e4 : (0 : Int) ≤ (a : Int) + 1 := by omega
    have e5 : a < t.length := by omega
    have e6 : (a : Int) < t.length := by omega
    simp [hpR, e2, e3, e4, e5, e6, g1, wrap64 (x := (a : Int) + 1) (by omega) (by omega)]
    refine h11 _ _ _ ?_
    clear h11 K11
    rw [ints_set]
    refine ab_seq_k fun K12 h12 => ?_
    simp [wrap64 (x := (a : Int) + 1) (by omega) (by omega)]
    refine h12 _ _ _ ?_
    clear h12 K12
    refine ab_block_k fun K13 h13 => ?_
    refine ab_loop_k (inv64_0 t b ft fb r l a) (t.length - 1 - a) ⟨0, by omega, by simp, by simp [hpR, acc]⟩ ?_
    rintro m env σ ⟨j, hj, rfl, rfl⟩ K14 h14
    rw [ic64_0]
    refine ab_seq_k fun K15 h15 => ?_
    refine ab_seq_k fun K16 h16 => ?_
    simp [hpR]
    refine callK_of (FSpec.frame (refLong (x := sl b fb) (by omega)) (by simp) rfl) ?_
    simp
    refine h16 _ _ _ ?_
    refine ab_cond_of rfl (fun hc => ?_) (fun hc => ?_)
    · have hjn : a + 1 + j < t.length := by simp at hc; omega
      simp
      refine h15 _ _ _ ?_
      clear h15 K15 h16 K16
      refine ab_seq_k fun K17 h17 => ?_
      have next : ∀ {env σ}, keep env [3, 4, 5, 7, 8, 9] = [(3, .p 0 0 0), (4, .p 1 0 0), (5, .p 2 0 0), (7, .s 3 0 0 t.length 1), (8, .i .i64 a), (9, .i .i64 ((a : Int) + 1 + j))] →
          σ = hpR t b ft fb r l ((outA t.length (restN t b r l) (a + 1)).set a (acc (scN t b r) l.letsN (restN t b r l) a (j + 1))) → K17 (some 0) env σ := by
        rintro env σ he rfl
        simp at he
        obtain ⟨q1, q2, q3, q4, q5, q6⟩ := he
        refine h17 _ _ _ ?_
        simp [q6, wrap64 (x := (a : Int) + 1 + j + 1) (by omega) (by omega)]
        exact h14 _ _ _ (again (m - 1) (by omega) ⟨j + 1, by omega, by simp [q1, q2, q3, q4, q5]; omega, rfl⟩)
      clear h17 h14
      refine ab_block_k fun K18 h18 => ?_
      refine ab_seq_k fun K19 h19 => ?_
      simp [h7]
      refine callK_of (FSpec.frame (refScale (t := t) (b := b) (ft := ft) (fb := fb) (r := r) (x := a) (y := (a : Int) + 1 + j) n61 tv bl hr (by omega) (by omega) (by omega)) (by simp) rfl) ?_
      have hsc : scaleP t b r a ((a : Int) + 1 + j) = scN t b r a (a + 1 + j) := by
        unfold scN
        congr 1
      rw [hsc]
      simp
      refine h19 _ _ _ ?_
      clear h19 K19
      refine ab_seq_k fun K20 h20 => ?_
      obtain ⟨s1, s2⟩ := scN_bounds (b := b) hr tv (i := a) (j := a + 1 + j)
      have hlets : l.lets a ((a : Int) + 1 + j) = l.letsN a (a + 1 + j) := by
        unfold Lt2.letsN
        congr 1
      have hacc : acc (scN t b r) l.letsN (restN t b r l) a (j + 1) = if 0 < scN t b r a (a + 1 + j) ∧ l.letsN a (a + 1 + j) = true then max (acc (scN t b r) l.letsN (restN t b r l) a j) (scN t b r a (a + 1 + j) + restN t b r l (a + 1 + j)) else acc (scN t b r) l.letsN (restN t b r l) a j := rfl
      have hab := acc_le (sc := scN t b r) (lt := l.letsN) (vn := restN t b r l) (i := a) (L := t.length - 1) (M := 216000) (by omega) (fun a c => (scN_bounds hr tv).2) (fun m h1 h2 => val_le (by omega) (fun a c => (scN_bounds hr tv).2) rfl h2) (j := j) (by omega) (by omega)
      have hto := restN_le (b := b) (l := l) hr tv n61 (i := a + 1 + j) (by omega)
      have hgt := outA_get (n := t.length) (f := restN t b r l) (lo := a + 1) (i := a + 1 + j) hjn
      rw [if_pos (by omega)] at hgt
      generalize hsv : scN t b r a (a + 1 + j) = sv at *
      generalize hrv : restN t b r l (a + 1 + j) = rv at *
      generalize hav : acc (scN t b r) l.letsN (restN t b r l) a j = av at *
      have hskip : acc (scN t b r) l.letsN (restN t b r l) a (j + 1) = av → ∀ {env}, keep env [3, 4, 5, 7, 8, 9] = [(3, .p 0 0 0), (4, .p 1 0 0), (5, .p 2 0 0), (7, .s 3 0 0 t.length 1), (8, .i .i64 a), (9, .i .i64 ((a : Int) + 1 + j))] → get env 50 = .b false → K20 (some 0) env (hpR t b ft fb r l ((outA t.length (restN t b r l) (a + 1)).set a av)) := by
        intro he env hk h50
        refine h20 _ _ _ ?_
        refine ab_cond_of h50 (fun hc => by cases hc) (fun _ => ?_)
        simp
        exact h18 _ _ _ (next hk (by rw [he]))
      by_cases hp : 0 < sv
      · simp [hp]
        refine callK_of (FSpec.frame (refLets (l := l) (x := a) (y := (a : Int) + 1 + j)) (by simp) rfl) ?_
        rw [hlets]
        cases hlt : l.letsN a (a + 1 + j) with
        | false =>
          simp
          exact hskip (by rw [hacc, if_neg (by rw [hlt]; simp)]) (by simp) (by simp)
        | true =>
          simp
          refine h20 _ _ _ ?_
          refine ab_cond_of rfl (fun _ => ?_) (fun hc => by cases hc)
          have e2 : ((a : Int) + 1 + j).toNat = a + 1 + j := by omega
          have e3 : (a : Int) + 1 + j < t.length := by omega
          have e4 : (0 : Int) ≤ (a : Int) + 1 + j := by omega
          have e5 : a < t.length := by omega
          have e6 : (a : Int) < t.length := by omega
          have e7 : ¬ a = a + 1 + j := by omega
          have hself : ((outA t.length (restN t b r l) (a + 1)).set a av)[a]? = some av := List.getElem?_set_self (by simpa using e5)
          have hne : ((outA t.length (restN t b r l) (a + 1)).set a av)[a + 1 + j]? = some rv := by rw [List.getElem?_set_ne e7, hgt]
          simp only [hsv, hav] at *
          obtain ⟨hh, hel⟩ := List.getElem?_eq_some_iff.1 hgt
          simp [e2, e3, e4, e5, e6, e7, hself, hne, hjn, hel, wrap64 (x := sv + rv) (by omega) (by omega)]
          rw [ints_set, List.set_set]
          exact h18 _ _ _ (next (by simp) (by rw [hacc, if_pos ⟨hp, hlt⟩]; simp [hpR]))
      · simp [hp]
        exact hskip (by rw [hacc, if_neg (by simp [hp])]) (by simp) (by simp)
    · have hjn : j = t.length - 1 - a := by simp at hc; omega
      subst hjn
      simp
      refine h13 _ _ _ ?_
      refine h10 _ _ _ ?_
      refine h9 _ _ _ ?_
      simp [wrap64 (x := (a : Int) - 1) (by omega) (by omega)]
      refine h6 _ _ _ (again a (by omega) ⟨by omega, by simp, ?_⟩)
      have hv : acc (scN t b r) l.letsN (restN t b r l) a (t.length - 1 - a) = restN t b r l a := (val_rec (by omega)).symm
      rw [hv, outA_set (by omega)]
      rfl
  · have hm0 : m = 0 := by simp at hc; omega
    subst hm0
    simp
    refine h5 _ _ _ ?_
    refine h3 _ _ _ ?_
    refine ab_seq_k fun K21 h21 => ?_
    simp
    refine h21 _ _ _ ?_
    simp
    refine fin_of 2 ?_
    simp only [outA_zero]
    refine ⟨?_, .inr trivial⟩
    have := frz_ints (k := 0) (n := 0) (id := 3) (ver := 0) (σ := hpR t b ft fb r l ((List.range t.length).map (restN t b r l))) rfl (Nat.zero_le _)
    simpa using this
end Go.Ab
end

section
/- prices: what best cuttings of logs that are let scale from each place on. -/
set_option linter.unusedVariables false
set_option linter.unusedSimpArgs false
set_option maxHeartbeats 4000000
namespace Go.Ab
open Go Go.Proofs

/-! ### A slice that grows -/
def AllIs (k : Nat) (σ : List O) (v : V) (l : List Int) : Prop := v = sl l true ∨ ∃ id ver, k ≤ id ∧ v = .s id ver 0 l.length 1 ∧ σ[id]? = some (.row ver (ints l))

theorem app_all {k : Nat} {σ : List O} {v : V} {l : List Int} {z : Int} {C : Ct} (h : AllIs k σ v l) (hk : k ≤ σ.length) (hb : (l.length : Int) < 1000000000)
    (hC : ∀ v' σ', AllIs k σ' v' (l ++ [z]) → σ'.take k = σ.take k → C v' σ') : appK 1 8 v (.ss [.i .i64 z] 1 true) σ C := by
  have hz : ints (l ++ [z]) = ints l ++ [.i .i64 z] := by simp [ints]
  rcases h with rfl | ⟨id, ver, hid, rfl, hs⟩
  · refine ⟨by simp, ?_⟩
    simp only [sl]
    refine ⟨by simp, by omega, ?_⟩
    rw [if_neg (by omega)]
    refine hC _ _ (.inr ⟨σ.length, 0, hk, by simp, ?_⟩) ?_
    · rw [hz]; simp
    · rw [List.take_append_of_le_length hk]
  · refine ⟨by simp, ?_⟩
    have hlt := (List.getElem?_eq_some_iff.1 hs).1
    simp only [hs]
    refine ⟨trivial, trivial, by simp, by omega, ?_⟩
    rw [if_neg (by omega)]
    refine hC _ _ (.inr ⟨id, ver + 1, hid, by simp, ?_⟩) ?_
    · rw [hz, List.getElem?_set_self hlt]; simp
    · rw [List.take_set_of_le hid]

theorem app_all' {k : Nat} {σ : List O} {v : V} {l : List Int} {z : Int} {C : Ct} (h : AllIs k σ v l) (hk : k ≤ σ.length) (hb : (l.length : Int) < 1000000000)
    (hC : ∀ v' σ', AllIs k σ' v' (l ++ [z]) → σ'.take k = σ.take k → C v' σ') : appTo 1 8 v σ C [.i .i64 z] 1 := by
  have := app_all h hk hb hC
  simp only [appK_ss] at this
  exact this.2
theorem AllIs.app {k : Nat} {σ g : List O} {v : V} {l : List Int} (h : AllIs k σ v l) : AllIs k (σ ++ g) v l := by
  rcases h with h | ⟨id, ver, h1, h2, h3⟩
  · exact .inl h
  · exact .inr ⟨id, ver, h1, h2, by rw [List.getElem?_append_left (List.getElem?_eq_some_iff.1 h3).1]; exact h3⟩
theorem AllIs.set {k i : Nat} {σ : List O} {v : V} {l : List Int} {o : O} (h : AllIs k σ v l) (hi : i < k) : AllIs k (σ.set i o) v l := by
  rcases h with h | ⟨id, ver, h1, h2, h3⟩
  · exact .inl h
  · exact .inr ⟨id, ver, h1, h2, by rw [List.getElem?_set_ne (by omega)]; exact h3⟩

theorem take5 {σ' : List O} {a b c d e : O} {g : List O} (h : σ'.take 5 = (a :: b :: c :: d :: e :: g).take 5) : ∃ g', σ' = a :: b :: c :: d :: e :: g' := by
  refine ⟨σ'.drop 5, ?_⟩
  have := List.take_append_drop 5 σ'
  rw [h] at this
  simpa using this.symm

theorem frzO_pure {k n ver : Nat} {σ : List O} {cells : List V} (h : pureL cells = true) : frzO (k + 1) n σ (.row ver cells) = .row ver cells := by
  simp only [frzO]; rw [map_frz h]
theorem frzS_pure4 {a b c d : List V} {g : List O} {k va vb vc vd : Nat} (ha : pureL a = true) (hb : pureL b = true) (hc : pureL c = true) (hd : pureL d = true) :
    frzS (k + 1) 4 (.row va a :: .row vb b :: .row vc c :: .row vd d :: g) = [.row va a, .row vb b, .row vc c, .row vd d] := by
  show [frzO (k + 1) 4 _ _, frzO (k + 1) 4 _ _, frzO (k + 1) 4 _ _, frzO (k + 1) 4 _ _] = _
  rw [frzO_pure ha, frzO_pure hb, frzO_pure hc, frzO_pure hd]

/-- The greatest of several. -/
theorem greatest_ok {l : List Int} {f : Bool} {x : Int} (hl : (l.length : Int) < 1000000000) : FSpec Try.prog 82 [.i .i64 x, sl l f] [] (.i .i64 (l.foldl max x)) [] := by
  refine fn82.spec0 mixed itT_ok ?_
  rw [ic82]
  refine ab_seq_k fun K1 h1 => ?_
  simp
  refine h1 _ _ _ ?_
  clear h1 K1
  refine ab_seq_k fun K2 h2 => ?_
  refine ab_seq_k fun K3 h3 => ?_
  simp
  refine h3 _ _ _ ?_
  clear h3 K3
  refine ab_block_k fun K4 h4 => ?_
  refine ab_loop_k (fun m env σ => ∃ i : Nat, i + m = l.length ∧ env = [(0, .i .i64 ((l.take i).foldl max x)), (7, sl l f), (8, .i .i64 l.length), (9, .i .i64 i)] ∧ σ = []) l.length ⟨0, by omega, by simp, rfl⟩ ?_
  rintro m env σ ⟨i, hi, rfl, rfl⟩ K5 h5
  rw [ic82_0]
  refine ab_seq_k fun K6 h6 => ?_
  simp
  refine h6 _ _ _ ?_
  clear h6 K6
  refine ab_seq_k fun K7 h7 => ?_
  refine ab_cond_of rfl (fun hc => ?_) (fun hc => ?_)
  · have hlt : i < l.length := by simp at hc; omega
    obtain ⟨g1, k1, hmem⟩ := getD_get hlt
    have htake : l.take (i + 1) = l.take i ++ [l.getD i 0] := by rw [List.take_add_one, g1]; rfl
    generalize l.getD i 0 = y at *
    simp
    refine h7 _ _ _ ?_
    refine ab_seq_k fun K8 h8 => ?_
    refine ab_block_k fun K9 h9 => ?_
    refine ab_seq_k fun K10 h10 => ?_
    simp [hlt, g1, k1]
    refine h10 _ _ _ ?_
    simp
    refine h9 _ _ _ ?_
    refine h8 _ _ _ ?_
    simp [wrap64 (x := (i : Int) + 1) (by omega) (by omega)]
    refine h5 _ _ _ (again (m - 1) (by omega) ⟨i + 1, by omega, ?_, rfl⟩)
    simp [htake]
  · have hlt : i = l.length := by simp at hc; omega
    subst hlt
    simp
    refine h4 _ _ _ ?_
    refine h2 _ _ _ ?_
    refine ab_seq_k fun K8 h8 => ?_
    simp
    refine h8 _ _ _ ?_
    simp
    exact fin_of 1 (by simp [rs82])

/-! ### Candidates -/
def cand (lt : Nat → Nat → Bool) (vn : Nat → Int) (a : Nat) (l : List (Int × Int)) : List Int := l.filterMap fun p => if lt a p.1.toNat = true then some (p.2 + vn p.1.toNat) else none

theorem cand_fold {kn : Kn} {sc : Nat → Nat → Int} {lt : Nat → Nat → Bool} {vn : Nat → Int} {a : Nat} : ∀ {j : Nat}, (∀ i, i < j → look kn (a, (a : Int) + 1 + i) = sc a (a + 1 + i)) → 0 ≤ vn (a + 1) →
    (vn (a + 1) :: cand lt vn a (logsUp kn a j)).foldl max 0 = acc sc lt vn a j
  | 0, _, h0 => by simp [cand, logsUp, acc]; omega
  | j + 1, h, h0 => by
    have ih := cand_fold (lt := lt) (vn := vn) (j := j) (fun i hi => h i (by omega)) h0
    have hj := h j (by omega)
    have e : ((a : Int) + 1 + j).toNat = a + 1 + j := by omega
    simp only [acc, logsUp, hj]
    by_cases hp : 0 < sc a (a + 1 + j)
    · rw [if_pos hp]
      by_cases hl : lt a (a + 1 + j) = true
      · rw [if_pos ⟨hp, hl⟩, ← ih]
        simp only [cand, List.filterMap_append, List.filterMap_cons, List.filterMap_nil, e, hl, if_true, ← List.cons_append, List.foldl_append, List.foldl_cons, List.foldl_nil]
      · rw [if_neg (by simp [hl]), ← ih]
        simp only [cand, List.filterMap_append, List.filterMap_cons, List.filterMap_nil, e, hl, if_false, List.append_nil]
        simp
    · rw [if_neg hp, if_neg (by simp [hp]), List.append_nil]
      exact ih

theorem logsUp_mem {kn : Kn} {a : Nat} {p : Int × Int} : ∀ {j : Nat}, p ∈ logsUp kn a j → ∃ i, i < j ∧ p = ((a : Int) + 1 + i, look kn (a, (a : Int) + 1 + i)) ∧ 0 < p.2
  | 0, h => by cases h
  | j + 1, h => by
    simp only [logsUp, List.mem_append] at h
    rcases h with h | h
    · obtain ⟨i, hi, h1, h2⟩ := logsUp_mem h
      exact ⟨i, by omega, h1, h2⟩
    · split at h
      · rename_i hp
        simp only [List.mem_singleton] at h
        subst h
        exact ⟨j, by omega, rfl, hp⟩
      · cases h
theorem logsUp_len {kn : Kn} {a : Nat} : ∀ {j : Nat}, (logsUp kn a j).length ≤ j
  | 0 => by simp [logsUp]
  | j + 1 => by
    have := logsUp_len (kn := kn) (a := a) (j := j)
    simp only [logsUp, List.length_append]
    split <;> simp <;> omega

/-! ### The walk -/
def valP (t b : List Int) (r : Ru) (lt : Nat → Nat → Bool) (i : Nat) : Int := if i ≤ t.length - 1 then val (scN t b r) lt (t.length - 1) i else 0
def hpP (F Sc : V) (out : List Int) (g : List O) : List O := .row 0 [F] :: .row 0 (List.replicate 61 (.i .i64 0)) :: .row 0 (ints out) :: .row 0 [Sc] :: g

def inv62 (t b : List Int) (r : Ru) (lt : Nat → Nat → Bool) (y F : V) (m : Nat) (env : Env) (σ : List O) : Prop :=
  m ≤ t.length - 1 ∧ env = [(0, y), (3, .p 0 0 0), (4, .p 1 0 0), (5, .p 2 0 0), (6, .p 3 0 0), (7, .i .i64 ((m : Int) - 1))] ∧
    σ = hpP F (.f (.func 52) [y] []) (outA 61 (valP t b r lt) m) []

theorem prices_ok {t b : List Int} {ft fb : Bool} {r : Ru} {g : FuncId} {first cap : List V} {lt : Nat → Nat → Bool} (ok : Ok t b r) (hf : pureL first = true) (hcp : pureL cap = true)
    (hg : ∀ i j : Nat, FSpec Try.prog g (first ++ [.agg [.i .i64 i, .i .i64 j]] ++ cap) [] (.b (lt i j)) []) :
    FSpec Try.prog 62 [yardV t ft b fb (knownK t b r), .f (.func g) first cap] [] (.agg (ints (outA 61 (valP t b r lt) 0))) [] := by
  obtain ⟨n2, n61, tv, bl, hr⟩ := ok
  have hyp := pure_yard (t := t) (ft := ft) (b := b) (fb := fb) (kn := knownK t b r)
  have hlong : ∀ σ, FSpec Try.prog 66 [yardV t ft b fb (knownK t b r)] σ (.i .i64 ((t.length : Int) - 1)) σ := fun σ =>
    FSpec.frame (long_ok (cells := [sl t ft, sl b fb, knownV (knownK t b r)]) (off := 0) (t := ints t) (n := t.length) (full := ft) rfl (by omega)) (by simp [yardV] at hyp ⊢) rfl
  have hscale : ∀ (x y : Int) σ, FSpec Try.prog 52 [yardV t ft b fb (knownK t b r), .agg [.i .i64 x, .i .i64 y]] σ (.i .i64 (look (knownK t b r) (x, y))) σ := fun x y σ =>
    FSpec.frame (scale_ok (t := t) (ft := ft) (b := b) (fb := fb) (kn := knownK t b r) (x := x) (y := y)) (by simp) rfl
  have hlogs : ∀ (fr : Int) σ, FSpec Try.prog 67 [yardV t ft b fb (knownK t b r), .i .i64 fr] σ (.f (.func 84) [] [.sp [.i .i64 fr] 0, .sp [yardV t ft b fb (knownK t b r)] 0]) σ := fun fr σ =>
    FSpec.frame (logs_ok (cells := [sl t ft, sl b fb, knownV (knownK t b r)]) (off := 0) (fr := fr) (by simp)) (by simp) (by simp)
  have hit : ∀ {fr : Nat}, fr < t.length → ItT 84 [] [.sp [.i .i64 fr] 0, .sp [yardV t ft b fb (knownK t b r)] 0] ((logsUp (knownK t b r) fr (t.length - 1 - fr)).map (logV fr)).length (fun i x _ g => ((logsUp (knownK t b r) fr (t.length - 1 - fr)).map (logV fr))[i]? = some x ∧ g = []) (fun _ => true = true) := fun h => logs_it (by omega) n61 h
  generalize hy : yardV t ft b fb (knownK t b r) = y at *
  have hlook : ∀ a i : Nat, a + 1 + i < t.length → look (knownK t b r) (a, (a : Int) + 1 + i) = scN t b r a (a + 1 + i) := by
    intro a i h
    rw [look_known hr (by omega) (by omega) (by omega)]
    unfold scN
    congr 1
  generalize hkn : knownK t b r = kn at *
  have hvb : ∀ i, 0 ≤ valP t b r lt i ∧ valP t b r lt i ≤ 12960000 := by
    intro i
    unfold valP
    split
    · rename_i h
      obtain ⟨h1, h2⟩ := val_le (sc := scN t b r) (lt := lt) (L := t.length - 1) (M := 216000) (by omega) (fun a c => (scN_bounds hr tv).2) rfl h
      refine ⟨h1, Int.le_trans h2 ?_⟩
      have : ((t.length - 1 - i : Nat) : Int) ≤ 60 := by omega
      omega
    · omega
  have hlast : ∀ i, t.length - 1 ≤ i → valP t b r lt i = 0 := by
    intro i h
    unfold valP
    split
    · rw [show i = t.length - 1 by omega, val_last]
    · rfl
  have hzero : outA 61 (valP t b r lt) (t.length - 1) = List.replicate 61 0 := by
    apply List.ext_getElem?
    intro i
    by_cases hi : i < 61
    · rw [outA_get hi, List.getElem?_replicate, if_pos hi]
      split
      · rw [hlast i (by assumption)]
      · rfl
    · rw [List.getElem?_eq_none (by simp; omega), List.getElem?_eq_none (by simp; omega)]
  have hcells : cellsOf (.f (.func g) first cap) = some [.f (.func g) first cap] := rfl
  refine fn62.spec0 mixed itT_ok ?_
  rw [ic62]
  refine ab_seq_k fun K1 h1 => ?_
  simp [-List.reduceReplicate]
  refine h1 _ _ _ ?_
  clear h1 K1
  refine ab_seq_k fun K2 h2 => ?_
  simp [-List.reduceReplicate]
  refine h2 _ _ _ ?_
  clear h2 K2
  refine ab_seq_k fun K3 h3 => ?_
  simp [-List.reduceReplicate]
  refine h3 _ _ _ ?_
  clear h3 K3
  have e0 : rep 61 [V.i .i64 0] ++ List.replicate (61 - (rep 61 [V.i .i64 0]).length) (V.i .i64 0) = ints (outA 61 (valP t b r lt) (t.length - 1)) := by rw [hzero]; rfl
  rw [e0]
  generalize hz : List.replicate 61 (V.i .i64 0) = zs
  have hzl : zs.length = 61 := by rw [← hz]; rfl
  refine ab_seq_k fun K4 h4 => ?_
  simp
  refine h4 _ _ _ ?_
  clear h4 K4
  refine ab_seq_k fun K5 h5 => ?_
  refine ab_seq_k fun K6 h6 => ?_
  simp
  refine callK_of (hlong _) ?_
  simp [wrap64 (x := (t.length : Int) - 1 - 1) (by omega) (by omega)]
  refine h6 _ _ _ ?_
  clear h6 K6
  refine ab_block_k fun K7 h7 => ?_
  refine ab_loop_k (inv62 t b r lt y (.f (.func g) first cap)) (t.length - 1) ⟨Nat.le_refl _, by simp; omega, by rw [← hz]; rfl⟩ ?_
  rintro m env σ ⟨hm, rfl, rfl⟩ K8 h8
  rw [ic62_1]
  refine ab_seq_k fun K9 h9 => ?_
  refine ab_seq_k fun K10 h10 => ?_
  simp
  refine h10 _ _ _ ?_
  simp only [hpP, hz]
  refine ab_cond_of rfl (fun hc => ?_) (fun hc => ?_)
  · obtain ⟨a, rfl⟩ : ∃ a, m = a + 1 := ⟨m - 1, by simp at hc; omega⟩
    have e1 : ((a + 1 : Nat) : Int) - 1 = a := by omega
    rw [e1]
    have g1 := outA_get (n := 61) (f := valP t b r lt) (lo := a + 1) (i := a + 1) (by omega)
    simp only [Nat.le_refl, if_true] at g1
    have e2 : ((a : Int) + 1).toNat = a + 1 := by omega
    have e3 : (a : Int) + 1 < 61 := by omega
    have e4 : (0 : Int) ≤ (a : Int) + 1 := by omega
    have e5 : (a : Int) < 61 := by omega
    simp
    refine h9 _ _ _ ?_
    refine ab_seq_k fun K11 h11 => ?_
    refine ab_block_k fun K12 h12 => ?_
    refine ab_seq_k fun K13 h13 => ?_
    obtain ⟨hh, hel⟩ := List.getElem?_eq_some_iff.1 g1
    simp [e2, e3, e4, g1, hel, wrap64 (x := (a : Int) + 1) (by omega) (by omega)]
    refine h13 _ _ _ ?_
    clear h13 K13
    refine ab_seq_k fun K14 h14 => ?_
    refine ab_seq_k fun K15 h15 => ?_
    simp
    refine callK_of (hlogs _ _) ?_
    simp
    refine h15 _ _ _ ?_
    clear h15 K15
    refine ab_block_k fun K16 h16 => ?_
    generalize hout : outA 61 (valP t b r lt) (a + 1) = out at *
    have hol : out.length = 61 := by rw [← hout]; simp
    have hg2 : ∀ i, a < i → i < t.length → out[i]? = some (valP t b r lt i) := by
      intro i h1 h2
      rw [← hout, outA_get (by omega), if_pos (by omega)]
    refine ⟨_, _, _, hit (fr := a) (by omega), fun i σ => ∃ gg v, σ = hpP (.f (.func g) first cap) (.f (.func 52) [y] []) out (.row 0 [v] :: gg) ∧
      AllIs 5 σ v (valP t b r lt (a + 1) :: cand lt (valP t b r lt) a ((logsUp kn a (t.length - 1 - a)).take i)), fun _ _ _ => rfl, ?_, ?_, ?_⟩
    · exact ⟨[], sl [valP t b r lt (a + 1)] true, by simp only [hpP, hz]; rfl, .inl (by simp [cand])⟩
    · rintro i x σ' g_ hi_ ⟨hx, rfl⟩ ⟨gg, v, rfl, hall⟩
      rw [List.getElem?_map, Option.map_eq_some_iff] at hx
      obtain ⟨p, hp, rfl⟩ := hx
      have htake : (logsUp kn a (t.length - 1 - a)).take (i + 1) = (logsUp kn a (t.length - 1 - a)).take i ++ [p] := by rw [List.take_add_one, hp]; rfl
      obtain ⟨i', hi', hpe, hpos⟩ := logsUp_mem (List.mem_of_getElem? hp)
      have hlk := hlook a i' (by omega)
      obtain ⟨to, sv⟩ := p
      simp only [Prod.mk.injEq] at hpe
      obtain ⟨hto, hsv⟩ := hpe
      simp only at hpos
      have hton : to = ((a + 1 + i' : Nat) : Int) := by omega
      have htoN : to.toNat = a + 1 + i' := by omega
      have hout2 := hg2 (a + 1 + i') (by omega) (by omega)
      have hlen : (valP t b r lt (a + 1) :: cand lt (valP t b r lt) a ((logsUp kn a (t.length - 1 - a)).take i)).length < 100 := by
        have h1 := logsUp_len (kn := kn) (a := a) (j := t.length - 1 - a)
        have h2 : (cand lt (valP t b r lt) a ((logsUp kn a (t.length - 1 - a)).take i)).length ≤ ((logsUp kn a (t.length - 1 - a)).take i).length := List.length_filterMap_le _ _
        simp only [List.length_cons, List.length_take] at *
        omega
      have hsb := scN_bounds (b := b) hr tv (i := a) (j := a + 1 + i')
      have hvv := hvb (a + 1 + i')
      refine ⟨rfl, ?_⟩
      simp only [hpP, hz] at hall ⊢
      generalize hKR : roundK _ _ _ = KR
      rw [List.append_nil]
      have hfin : ∀ env σ2, (∃ gg v, σ2 = .row 0 [.f (.func g) first cap] :: .row 0 zs :: .row 0 (ints out) :: .row 0 [.f (.func 52) [y] []] :: .row 0 [v] :: gg ∧ AllIs 5 σ2 v (valP t b r lt (a + 1) :: cand lt (valP t b r lt) a ((logsUp kn a (t.length - 1 - a)).take (i + 1)))) → KR (some 0) env σ2 := by
        intro env σ2 h
        rw [← hKR]
        exact ⟨rfl, .inl h⟩
      clear hKR
      simp [logV]
      rw [ic62_0]
      refine ab_block_k fun K19 h19 => ?_
      refine ab_seq_k fun K20 h20 => ?_
      simp
      refine callK_of (FSpec.frame (by have := hg a (a + 1 + i'); rw [← hton] at this; simpa using this) (by rw [pureL_all]; intro v hv; simp at hv; rcases hv with h | rfl | h; exact pureL_all.1 hf v h; rfl; exact pureL_all.1 hcp v h) rfl) ?_
      simp
      refine h20 _ _ _ ?_
      clear h20 K20
      refine ab_cond_of rfl (fun hc => ?_) (fun hc => ?_)
      · have hl : look kn (a, to) = sv := by rw [hsv, hto]
        have q1 : to < 61 := by omega
        have q2 : 0 ≤ to := by omega
        obtain ⟨hh2, hel2⟩ := List.getElem?_eq_some_iff.1 hout2
        have hsvb : 0 ≤ sv ∧ sv ≤ 216000 := by rw [hsv, hlk]; exact hsb
        simp
        simp [abDs_consU, drU, recheck_cons, recheck_nil, rcK, IS.dst, q1, q2, htoN, hout2, hel2, hol]
        refine callK_of (hscale _ _ _) ?_
        rw [hl]
        simp [abDs_consU, drU, recheck_cons, recheck_nil, rcK, IS.dst, q1, q2, htoN, hout2, hel2, hol, wrap64 (x := sv + valP t b r lt (a + 1 + i')) (by omega) (by omega)]
        refine app_all' (k := 5) (AllIs.app hall) (by simp) (by omega) ?_
        intro v' σ' hall' htk
        obtain ⟨g', rfl⟩ := take5 htk
        have hone : cellsOf v' = some [v'] := by
          rcases hall' with rfl | ⟨_, _, _, rfl, _⟩ <;> rfl
        simp [abDs_consU, drU, recheck_cons, recheck_nil, rcK, IS.dst, hone]
        refine h19 _ _ _ (hfin _ _ ⟨g', v', rfl, ?_⟩)
        have := hall'.set (i := 4) (o := .row 0 [v']) (by omega)
        simp only [List.set_cons_succ, List.set_cons_zero] at this
        rw [htake]
        have ec : cand lt (valP t b r lt) a ((logsUp kn a (t.length - 1 - a)).take i ++ [(to, sv)]) = cand lt (valP t b r lt) a ((logsUp kn a (t.length - 1 - a)).take i) ++ [sv + valP t b r lt (a + 1 + i')] := by
          simp only [cand, List.filterMap_append, List.filterMap_cons, List.filterMap_nil, htoN, hc, if_true]
        rw [ec]
        exact this
      · simp
        refine h19 _ _ _ ?_
        refine hfin _ _ ⟨_, v, rfl, ?_⟩
        rw [htake]
        have ec : cand lt (valP t b r lt) a ((logsUp kn a (t.length - 1 - a)).take i ++ [(to, sv)]) = cand lt (valP t b r lt) a ((logsUp kn a (t.length - 1 - a)).take i) := by
          simp [cand, htoN, hc]
        rw [ec]
        exact AllIs.app hall
    · rintro σ' ⟨gg, v, rfl, hall⟩
      rw [List.length_map, List.take_length] at hall
      have hfold := cand_fold (kn := kn) (sc := scN t b r) (lt := lt) (vn := valP t b r lt) (a := a) (j := t.length - 1 - a) (fun i hi => hlook a i (by omega)) (hvb _).1
      have hacc : acc (scN t b r) lt (valP t b r lt) a (t.length - 1 - a) = valP t b r lt a := by
        have e := val_rec (sc := scN t b r) (lt := lt) (L := t.length - 1) (i := a) (by omega)
        have e2 : valP t b r lt a = val (scN t b r) lt (t.length - 1) a := by unfold valP; rw [if_pos (by omega)]
        rw [e2, e]
        have hv : ∀ m, m ≤ t.length - 1 → valP t b r lt m = val (scN t b r) lt (t.length - 1) m := by intro m h; unfold valP; rw [if_pos h]
        exact acc_congr (hv _ (by omega)) (fun m h1 h2 => hv m (by omega))
      rw [hacc] at hfold
      have hlen : (valP t b r lt (a + 1) :: cand lt (valP t b r lt) a (logsUp kn a (t.length - 1 - a))).length < 100 := by
        have h1 := logsUp_len (kn := kn) (a := a) (j := t.length - 1 - a)
        have h2 : (cand lt (valP t b r lt) a (logsUp kn a (t.length - 1 - a))).length ≤ (logsUp kn a (t.length - 1 - a)).length := List.length_filterMap_le _ _
        simp only [List.length_cons] at *
        omega
      generalize hL : valP t b r lt (a + 1) :: cand lt (valP t b r lt) a (logsUp kn a (t.length - 1 - a)) = L at *
      simp only [hpP, hz] at hall ⊢
      refine h16 _ _ _ ?_
      refine h14 _ _ _ ?_
      have hgr : FSpec Try.prog 82 [.i .i64 0, v] (.row 0 [.f (.func g) first cap] :: .row 0 zs :: .row 0 (ints out) :: .row 0 [.f (.func 52) [y] []] :: .row 0 [v] :: gg) (.i .i64 (valP t b r lt a)) (.row 0 [.f (.func g) first cap] :: .row 0 zs :: .row 0 (ints out) :: .row 0 [.f (.func 52) [y] []] :: .row 0 [v] :: gg) := by
        refine FSpec.frozen 2 (v := .i .i64 (valP t b r lt a)) ?_ rfl
        rcases hall with rfl | ⟨id, ver, h1, rfl, h3⟩
        · have := greatest_ok (l := L) (f := true) (x := 0) (by omega)
          rw [hfold] at this
          simpa using this
        · have := greatest_ok (l := L) (f := false) (x := 0) (by omega)
          rw [hfold] at this
          rw [List.map_cons, List.map_cons, List.map_nil, frz_ints h3 (Nat.zero_le _)]
          simpa using this
      simp
      refine callK_of hgr ?_
      simp [e5, hol, show a < 61 by omega]
      refine h12 _ _ _ ?_
      refine h11 _ _ _ ?_
      simp [wrap64 (x := (a : Int) - 1) (by omega) (by omega)]
      refine h8 _ _ _ (againF a 2 4 (by omega) (by omega) (by simp) ⟨by omega, ?_, ?_⟩)
      · rw [keepO_some, keep_frzE]
        simp [frzE, hyp]
      · rw [frzS_pure4 (by simp [hf, hcp]) (by rw [← hz]; rfl) (by rw [ints_set]; simp) (by simp [hyp])]
        rw [ints_set, ← hout, outA_set (by omega)]
        simp only [hpP, hz]
  · have hm0 : m = 0 := by simp at hc; omega
    subst hm0
    simp
    refine h7 _ _ _ ?_
    refine h5 _ _ _ ?_
    refine ab_seq_k fun K21 h21 => ?_
    simp
    have e9 : List.take 61 (ints (outA 61 (valP t b r lt) 0)) ++ List.drop 61 zs = ints (outA 61 (valP t b r lt) 0) := by
      rw [List.take_of_length_le (by simp), List.drop_eq_nil_of_le (by omega), List.append_nil]
    refine ⟨by omega, ?_⟩
    rw [e9]
    refine h21 _ _ _ ?_
    simp
    refine fin_of 2 ?_
    have e10 : List.take 61 (ints (outA 61 (valP t b r lt) 0)) = ints (outA 61 (valP t b r lt) 0) := List.take_of_length_le (by simp)
    simp [rs62, e10]
end Go.Ab
end

section
/- Best, of the program and of the reference. -/
set_option linter.unusedVariables false
set_option linter.unusedSimpArgs false
set_option maxHeartbeats 4000000
namespace Go.Ab
open Go Go.Proofs

theorem open1 {t b : List Int} {ft fb : Bool} {r : Ru} (hsz : Sz t b) {σ : List O} : FSpec Try.prog 50 [.agg [sl t ft, sl b fb], .ss r.cells 1 true] σ (.tup [openV t ft b fb [r], .i .i64 (openE t b [r])]) σ := by
  have hrv : r.cells = rulesV [r] := by simp [rulesV]
  refine FSpec.frame (args := [.agg [sl t ft, sl b fb], .ss r.cells 1 true]) (by rw [hrv]; exact open_ok (rs := [r]) hsz (by simp) (by simp)) (by simp) ?_
  simp [openV]; split <;> simp

theorem open_some {t b : List Int} {ft fb : Bool} {r : Ru} (hsz : Sz t b) (h : openE t b [r] = 0) : Ok t b r ∧ openV t ft b fb [r] = yardV t ft b fb (knownK t b r) := by
  obtain ⟨hs, hok⟩ := openE_stem h
  obtain ⟨s1, s2, s3, s4, s5⟩ := stem_ok hs
  exact ⟨⟨s1, s2, s3, hsz.b1, Ru.bounds (by simpa using hok)⟩, by simp [openV, h]⟩

theorem every_ok {x y : Int} : FSpec Try.prog 63 [.agg [.i .i64 x, .i .i64 y]] [] (.b true) [] := by
  refine fn63.spec0 mixed noIt_ok ?_
  rw [ic63]
  refine ab_seq_k fun K1 h1 => ?_
  simp
  refine h1 _ _ _ ?_
  refine ab_seq_k fun K2 h2 => ?_
  simp
  refine h2 _ _ _ ?_
  simp
  exact fin_of 1 (by simp [rs63])

theorem all_ok : FSpec Try.prog 65 [] [] (.agg [.i .i64 (-1), .i .i64 (-1)]) [] := by
  refine fn65.spec0 mixed noIt_ok ?_
  rw [ic65]
  refine ab_seq_k fun K1 h1 => ?_
  simp
  refine h1 _ _ _ ?_
  refine ab_seq_k fun K2 h2 => ?_
  simp
  refine h2 _ _ _ ?_
  simp
  exact fin_of 3 (by simp [rs65])

theorem letsAll : allL.letsN = fun _ _ => true := by
  funext i j
  exact allL_lets

theorem valP_all {t b : List Int} {r : Ru} {i : Nat} (h : i ≤ t.length - 1) : valP t b r (fun _ _ => true) i = restN t b r allL i := by
  unfold valP restN
  rw [if_pos h, letsAll]

theorem pricesAll {t b : List Int} {ft fb : Bool} {r : Ru} (ok : Ok t b r) {σ : List O} :
    FSpec Try.prog 62 [yardV t ft b fb (knownK t b r), .f (.func 63) [] []] σ (.agg (ints (outA 61 (valP t b r (fun _ _ => true)) 0))) σ :=
  FSpec.frame (prices_ok (g := 63) (first := []) (cap := []) (lt := fun _ _ => true) ok rfl rfl (fun i j => by simpa using every_ok)) (by simp) (by simp)

def bestP (t b : List Int) (r : Ru) : Int × Int := if openE t b [r] ≠ 0 then (0, openE t b [r]) else (restN t b r allL 0, 0)

theorem best_ok {t b : List Int} {ft fb : Bool} {r : Ru} (hsz : Sz t b) : FSpec Try.prog 26 [.agg [sl t ft, sl b fb], .agg r.cells] [] (pairV (bestP t b r)) [] := by
  refine fn26.spec0 mixed noIt_ok ?_
  rw [ic26]
  have h7 : List.take 7 r.cells = r.cells := rfl
  refine ab_seq_k fun K1 h1 => ?_
  simp
  refine h1 _ _ _ ?_
  clear h1 K1
  refine ab_seq_k fun K2 h2 => ?_
  simp [h7]
  refine callK_of (open1 hsz) ?_
  simp
  refine h2 _ _ _ ?_
  clear h2 K2
  refine ab_seq_k fun K3 h3 => ?_
  refine ab_seq_k fun K4 h4 => ?_
  simp
  refine h4 _ _ _ ?_
  clear h4 K4
  refine ab_cond_of rfl (fun hc => ?_) (fun hc => ?_)
  · simp at hc
    refine ab_seq_k fun K5 h5 => ?_
    simp
    refine h5 _ _ _ ?_
    simp
    exact fin_of 1 (by simp [rs26, bestP, hc, pairV])
  · simp at hc
    obtain ⟨ok, hov⟩ := open_some (ft := ft) (fb := fb) hsz hc
    rw [hov]
    simp
    refine h3 _ _ _ ?_
    refine ab_seq_k fun K6 h6 => ?_
    simp
    refine callK_of (pricesAll ok) ?_
    have g1 := outA_get (n := 61) (f := valP t b r (fun _ _ => true)) (lo := 0) (i := 0) (by omega)
    simp only [Nat.le_refl, if_true] at g1
    rw [valP_all (Nat.zero_le _)] at g1
    generalize hout : outA 61 (valP t b r (fun _ _ => true)) 0 = out at *
    have hol : out.length = 61 := by rw [← hout]; simp
    obtain ⟨hh, hel⟩ := List.getElem?_eq_some_iff.1 g1
    simp [hol, g1, hel]
    refine h6 _ _ _ ?_
    simp
    exact fin_of 1 (by simp [rs26, bestP, hc, pairV])

theorem refRestAll {t b : List Int} {ft fb : Bool} {r : Ru} (ok : Ok t b r) {σ : List O} :
    FSpec Try.prog 64 [.agg [sl t ft, sl b fb], .agg r.cells, .agg [.i .i64 (-1), .i .i64 (-1)]] σ (.ss (ints ((List.range t.length).map (restN t b r allL))) t.length false) σ :=
  FSpec.frame (refRest (l := allL) ok) (by simp) (by simp)

theorem rest_get {t b : List Int} {r : Ru} {l : Lt2} {i : Nat} (h : i < t.length) : ((List.range t.length).map (restN t b r l))[i]? = some (restN t b r l i) := by simp [h]

theorem refBest {t b : List Int} {ft fb : Bool} {r : Ru} (hsz : Sz t b) : FSpec Try.prog 27 [.agg [sl t ft, sl b fb], .agg r.cells] [] (pairV (bestP t b r)) [] := by
  refine fn27.spec0 mixed noIt_ok ?_
  rw [ic27]
  have hchk := refCheck (t := t) (b := b) (ft := ft) (fb := fb) (r := r) hsz.t1 hsz.b1 hsz.bb
  rw [openE_one] at hchk
  have h7 : List.take 7 r.cells = r.cells := rfl
  refine ab_seq_k fun K1 h1 => ?_
  simp
  refine h1 _ _ _ ?_
  clear h1 K1
  refine ab_seq_k fun K2 h2 => ?_
  refine ab_seq_k fun K3 h3 => ?_
  simp [h7]
  refine callK_of (FSpec.frame hchk (by simp) rfl) ?_
  simp
  refine h3 _ _ _ ?_
  clear h3 K3
  refine ab_cond_of rfl (fun hc => ?_) (fun hc => ?_)
  · simp at hc
    refine ab_seq_k fun K4 h4 => ?_
    simp [h7]
    refine callK_of (FSpec.frame hchk (by simp) rfl) ?_
    simp
    refine h4 _ _ _ ?_
    simp
    exact fin_of 1 (by simp [rs27, bestP, hc, pairV])
  · simp at hc
    obtain ⟨ok, -⟩ := open_some (ft := ft) (fb := fb) hsz hc
    have n2 := ok.n2
    simp
    refine h2 _ _ _ ?_
    refine ab_seq_k fun K5 h5 => ?_
    simp [h7]
    refine callK_of (FSpec.frame all_ok rfl rfl) ?_
    simp
    refine callK_of (refRestAll ok) ?_
    have g1 := rest_get (t := t) (b := b) (r := r) (l := allL) (i := 0) (by omega)
    generalize hL : (List.range t.length).map (restN t b r allL) = L at *
    obtain ⟨hh, hel⟩ := List.getElem?_eq_some_iff.1 g1
    have n0 : 0 < t.length := by omega
    simp [g1, hel, n0]
    refine h5 _ _ _ ?_
    simp
    exact fin_of 1 (by simp [rs27, bestP, hc, pairV])
end Go.Ab
end
