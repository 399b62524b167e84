/- Balances. -/
import Derived.Test.YtgaijhpekajflaaSD
set_option linter.unusedVariables false
set_option linter.unusedSimpArgs false
set_option maxHeartbeats 4000000
set_option maxRecDepth 100000
namespace Go.Ab
open Go Go.Proofs

def rowF (n : Nat) (f : Nat → Int) : List Int := (List.range n).map f
@[simp] theorem rowF_len {n f} : (rowF n f).length = n := by simp [rowF]
theorem rowF_get {n : Nat} {f : Nat → Int} {k : Nat} (h : k < n) : (rowF n f)[k]? = some (f k) := by simp [rowF, h]
@[simp] theorem rowF_at {n : Nat} {f : Nat → Int} {k : Nat} {h : k < (rowF n f).length} : (rowF n f)[k] = f k := by simp [rowF]
def upd (f : Nat → Int) (k : Nat) (x : Int) : Nat → Int := fun i => if i = k then x else f i
theorem rowF_set {n : Nat} {f : Nat → Int} {k : Nat} {x : Int} : (rowF n f).set k x = rowF n (upd f k x) := by
  apply List.ext_getElem?
  intro i
  rw [List.getElem?_set]
  by_cases hi : i < n
  · rw [rowF_get hi, rowF_get hi]
    unfold upd
    by_cases hk : k = i
    · subst hk; simp [hi]
    · have : ¬ i = k := fun e => hk e.symm
      simp [hk, this]
  · rw [List.getElem?_eq_none (by simp; omega), List.getElem?_eq_none (by simp; omega)]
    simp; omega
theorem rowF_congr {n : Nat} {f g : Nat → Int} (h : ∀ i, i < n → f i = g i) : rowF n f = rowF n g := by
  unfold rowF
  exact List.map_congr_left (fun i hi => h i (List.mem_range.1 hi))
theorem rowF_zero {n : Nat} : rowF n (fun _ => 0) = List.replicate n 0 := by
  apply List.ext_getElem?
  intro i
  by_cases hi : i < n
  · rw [rowF_get hi, List.getElem?_replicate, if_pos hi]
  · rw [List.getElem?_eq_none (by simp; omega), List.getElem?_eq_none (by simp; omega)]
theorem rowF_inj {n : Nat} {f g : Nat → Int} : rowF n f = rowF n g ↔ ∀ i, i < n → f i = g i := by
  refine ⟨fun h i hi => ?_, rowF_congr⟩
  have := congrArg (·[i]?) h
  simp only [rowF_get hi] at this
  exact Option.some.inj this
/-- What a debt adds to the balance of a mill. -/
def dlt (d : Db) (i : Nat) : Int := (if d.2.1 = (i : Int) then d.2.2 else 0) - (if d.1 = (i : Int) then d.2.2 else 0)
def balF (D : List Db) (i : Nat) : Int := D.foldl (fun a d => a + dlt d i) 0
theorem balF_snoc {D : List Db} {d : Db} {i : Nat} : balF (D ++ [d]) i = balF D i + dlt d i := by simp [balF]
theorem balF_take {D : List Db} {j i : Nat} {d : Db} (h : D[j]? = some d) : balF (D.take (j + 1)) i = balF (D.take j) i + dlt d i := by
  rw [List.take_add_one, h]; exact balF_snoc
/-- Debts of so many mills, of at most so much. -/
def DbOK (n : Int) (M : Int) (D : List Db) : Prop := ∀ d ∈ D, (0 ≤ d.1 ∧ d.1 < n) ∧ (0 ≤ d.2.1 ∧ d.2.1 < n) ∧ d.1 ≠ d.2.1 ∧ 1 ≤ d.2.2 ∧ d.2.2 ≤ M
theorem balF_b {n M : Int} (hM : 0 ≤ M) {D : List Db} (h : DbOK n M D) (i : Nat) : ∀ j, j ≤ D.length → -(M * j) ≤ balF (D.take j) i ∧ balF (D.take j) i ≤ M * j
  | 0, _ => by simp [balF]
  | j + 1, hj => by
    have ih := balF_b hM h i j (by omega)
    have hd : D[j]? = some D[j] := List.getElem?_eq_getElem (by omega)
    have hb := h _ (List.mem_of_getElem? hd)
    rw [balF_take hd]
    have : -M ≤ dlt D[j] i ∧ dlt D[j] i ≤ M := by
      unfold dlt
      split <;> split <;> omega
    rw [show M * ((j + 1 : Nat) : Int) = M * j + M by push_cast; rw [Int.mul_add, Int.mul_one]]
    omega
theorem balF_small {n M : Int} (hM : 0 ≤ M) (hM2 : M ≤ 40000000) {D : List Db} (h : DbOK n M D) (hl : D.length ≤ 50) (i j : Nat) (hj : j ≤ D.length) : -2000000000 ≤ balF (D.take j) i ∧ balF (D.take j) i ≤ 2000000000 := by
  have h1 := balF_b hM h i j hj
  have h2 : M * (j : Int) ≤ 40000000 * 50 := Int.mul_le_mul hM2 (by omega) (by omega) (by omega)
  omega
theorem checkD_ok {n M : Int} {D : List Db} (h : checkD n D M = 0) : DbOK n M D := by
  unfold checkD at h
  split at h
  · cases h
  · rename_i h1
    split at h
    · cases h
    · rename_i h2
      intro d hd
      have e1 : strayD n d = false := by
        have := List.any_eq_false.1 ((Bool.not_eq_true _).mp h1) d hd
        simpa using this
      have e2 : (!fit 1 M d.2.2) = false := by
        have := List.any_eq_false.1 ((Bool.not_eq_true _).mp h2) d hd
        simpa using this
      rw [stray_is] at e1
      simp [isDebtB] at e1
      simp [fit] at e2
      omega
theorem book_ok {n : Int} {D : List Db} (h : checkBook n D = 0) : (1 ≤ n ∧ n ≤ 10) ∧ D.length ≤ 40 ∧ DbOK n 1000000 D ∧ (D.map pr).Nodup := by
  unfold checkBook at h
  split at h
  · cases h
  · rename_i h1
    split at h
    · exact absurd h (by assumption)
    · rename_i h2
      split at h
      · rename_i h3
        simp [fit] at h1
        exact ⟨by omega, by omega, checkD_ok (Classical.not_not.1 h2), h3⟩
      · cases h
theorem upd_dlt {f : Nat → Int} {d : Db} {n : Int} (h1 : 0 ≤ d.1 ∧ d.1 < n) (h2 : 0 ≤ d.2.1 ∧ d.2.1 < n) (h3 : d.1 ≠ d.2.1) (i : Nat) :
    upd (upd f d.2.1.toNat (f d.2.1.toNat + d.2.2)) d.1.toNat (upd f d.2.1.toNat (f d.2.1.toNat + d.2.2) d.1.toNat - d.2.2) i = f i + dlt d i := by
  unfold upd dlt
  by_cases a : i = d.1.toNat
  · subst a
    rw [if_pos rfl, if_neg (by omega), if_neg (by omega), if_pos (by omega)]; omega
  · rw [if_neg a]
    by_cases b : i = d.2.1.toNat
    · subst b
      rw [if_pos rfl, if_pos (by omega), if_neg (by omega)]; omega
    · rw [if_neg b, if_neg (by omega), if_neg (by omega)]; omega

theorem upd_dltm {f : Nat → Int} {d : Db} {n : Int} (h1 : 0 ≤ d.1 ∧ d.1 < n) (h2 : 0 ≤ d.2.1 ∧ d.2.1 < n) (h3 : d.1 ≠ d.2.1) (i : Nat) :
    upd (upd f d.2.1.toNat (f d.2.1.toNat - d.2.2)) d.1.toNat (upd f d.2.1.toNat (f d.2.1.toNat - d.2.2) d.1.toNat + d.2.2) i = f i - dlt d i := by
  unfold upd dlt
  by_cases a : i = d.1.toNat
  · subst a
    rw [if_pos rfl, if_neg (by omega), if_neg (by omega), if_pos (by omega)]; omega
  · rw [if_neg a]
    by_cases b : i = d.2.1.toNat
    · subst b
      rw [if_pos rfl, if_pos (by omega), if_neg (by omega)]; omega
    · rw [if_neg b, if_neg (by omega), if_neg (by omega)]; omega
theorem balF_out {n M : Int} {D : List Db} (h : DbOK n M D) {i : Nat} (hi : n ≤ (i : Int)) : balF D i = 0 := by
  have : ∀ (D : List Db) (a : Int), DbOK n M D → D.foldl (fun a d => a + dlt d i) a = a := by
    intro D
    induction D with
    | nil => intro a _; rfl
    | cons d D ih =>
      intro a h
      obtain ⟨⟨b1, b2⟩, ⟨b3, b4⟩, -⟩ := h d (List.mem_cons_self ..)
      have e : dlt d i = 0 := by unfold dlt; rw [if_neg (by omega), if_neg (by omega)]; omega
      rw [List.foldl_cons, e, Int.add_zero]
      exact ih a (fun x hx => h x (List.mem_cons_of_mem _ hx))
  exact this D 0 h
theorem balances57 {D : List Db} {f : Bool} {M : Int} (hM : 0 ≤ M) (hM2 : M ≤ 40000000) (hD : DbOK 10 M D) (hl : D.length ≤ 50) : FSpec Try.prog 57 [slD D f] [] (.agg (ints (rowF 10 (balF D)))) [] := by
  refine fn57.spec0 mixed noIt_ok ?_
  rw [ic57]
  refine ab_seq_k fun K1 h1 => ?_
  simp [-List.reduceReplicate]
  refine h1 _ _ _ ?_
  clear h1 K1
  refine ab_seq_k fun K2 h2 => ?_
  simp [-List.reduceReplicate]
  refine h2 _ _ _ ?_
  clear h2 K2
  refine ab_seq_k fun K3 h3 => ?_
  simp [-List.reduceReplicate]
  refine h3 _ _ _ ?_
  clear h3 K3
  have e0 : (rep 10 [V.i IntKind.i64 0] ++ List.replicate (10 - (rep 10 [V.i IntKind.i64 0]).length) (V.i IntKind.i64 0)) = ints (rowF 10 (balF (D.take 0))) := rfl
  rw [e0]
  clear e0
  refine ab_seq_k fun K4 h4 => ?_
  refine ab_seq_k fun K5 h5 => ?_
  simp
  refine h5 _ _ _ ?_
  clear h5 K5
  refine ab_block_k fun K6 h6 => ?_
  refine ab_loop_k (fun m env σ => ∃ i : Nat, i + m = D.length ∧ env = [(2, .p 0 0 0), (3, .p 1 0 0), (7, slD D f), (8, .i .i64 D.length), (9, .i .i64 i)] ∧ σ[0]? = some (.row 0 (ints (rowF 10 (fun _ => 0)))) ∧ σ[1]? = some (.row 0 (ints (rowF 10 (balF (D.take i)))))) D.length ⟨0, by omega, by simp, rfl, rfl⟩ ?_
  rintro m env σ ⟨i, hi, rfl, s0, s1⟩ K7 h7
  rw [ic57_0]
  refine ab_seq_k fun K8 h8 => ?_
  simp
  refine h8 _ _ _ ?_
  clear h8 K8
  refine ab_seq_k fun K9 h9 => ?_
  refine ab_cond_of rfl (fun hc => ?_) (fun hc => ?_)
  · have hil : i < D.length := by simpa using hc
    obtain ⟨d, hd⟩ : ∃ d, D[i]? = some d := ⟨_, List.getElem?_eq_getElem hil⟩
    obtain ⟨z1, z2, z3, z4⟩ := lsD_get hd
    have hm3 : min 3 (D.length * 3 - i * 3) = 3 := by omega
    have hle : i * 3 + 3 ≤ D.length * 3 := by omega
    obtain ⟨⟨b1, b2⟩, ⟨b3, b4⟩, b5, b6, b7⟩ := hD d (List.mem_of_getElem? hd)
    have hbs := fun k => balF_small hM hM2 hD hl k i (by omega)
    have hstep := fun k => balF_take (i := k) hd
    have hst2 : rowF 10 (balF (D.take (i + 1))) = ((rowF 10 (balF (D.take i))).set d.2.1.toNat (balF (D.take i) d.2.1.toNat + d.2.2)).set d.1.toNat (upd (balF (D.take i)) d.2.1.toNat (balF (D.take i) d.2.1.toNat + d.2.2) d.1.toNat - d.2.2) := by
      rw [rowF_set, rowF_set]
      refine rowF_congr fun k _ => ?_
      rw [upd_dlt ⟨b1, b2⟩ ⟨b3, b4⟩ b5]
      exact hstep k
    simp
    refine h9 _ _ _ ?_
    clear h9 K9
    refine ab_seq_k fun K10 h10 => ?_
    refine ab_block_k fun K11 h11 => ?_
    refine ab_seq_k fun K12 h12 => ?_
    simp [hil, z1, hm3, hle]
    refine h12 _ _ _ ?_
    clear h12 K12
    have t0 := app_get (g := [O.row 0 [V.i IntKind.i64 d.1, V.i IntKind.i64 d.2.1, V.i IntKind.i64 d.2.2]]) s0
    have t1 := app_get (g := [O.row 0 [V.i IntKind.i64 d.1, V.i IntKind.i64 d.2.1, V.i IntKind.i64 d.2.2]]) s1
    have tr : (σ ++ [O.row 0 [V.i IntKind.i64 d.1, V.i IntKind.i64 d.2.1, V.i IntKind.i64 d.2.2]])[σ.length]? = some (O.row 0 [V.i IntKind.i64 d.1, V.i IntKind.i64 d.2.1, V.i IntKind.i64 d.2.2]) := by simp
    have hrl : σ.length ≠ 1 := by have := (List.getElem?_eq_some_iff.1 s1).1; omega
    generalize σ ++ [O.row 0 [V.i IntKind.i64 d.1, V.i IntKind.i64 d.2.1, V.i IntKind.i64 d.2.2]] = U at *
    generalize σ.length = ri at *
    generalize hF : balF (D.take i) = F at *
    have hto : d.2.1.toNat < 10 := by omega
    have hfr : d.1.toNat < 10 := by omega
    have g1 : (ints (rowF 10 F))[d.2.1.toNat]? = some (.i .i64 (F d.2.1.toNat)) := by rw [get_ints, rowF_get hto]; rfl
    obtain ⟨hg1, g1'⟩ := List.getElem?_eq_some_iff.1 g1
    obtain ⟨htr, tr'⟩ := List.getElem?_eq_some_iff.1 tr
    obtain ⟨ht1, t1'⟩ := List.getElem?_eq_some_iff.1 t1
    have hbt := hbs d.2.1.toNat
    have hbf := hbs d.1.toNat
    refine ab_seq_k fun K13 h13 => ?_
    simp [abDs_consU, drU, recheck_cons, recheck_nil, rcK, IS.dst, tr, tr', t1, t1', b3, b4, g1, g1', wrap64 (x := F d.2.1.toNat + d.2.2) (by omega) (by omega)]
    rw [ints_set, rowF_set]
    refine h13 _ _ _ ?_
    clear h13 K13
    have hF1 : ∀ k, upd F d.2.1.toNat (F d.2.1.toNat + d.2.2) k = if k = d.2.1.toNat then F d.2.1.toNat + d.2.2 else F k := fun k => rfl
    have hbg := hF1 d.1.toNat
    rw [if_neg (by omega)] at hbg
    have u1 : (U.set 1 (O.row 0 (ints (rowF 10 (upd F d.2.1.toNat (F d.2.1.toNat + d.2.2))))))[1]? = some (O.row 0 (ints (rowF 10 (upd F d.2.1.toNat (F d.2.1.toNat + d.2.2))))) := List.getElem?_set_self ht1
    have u0 : (U.set 1 (O.row 0 (ints (rowF 10 (upd F d.2.1.toNat (F d.2.1.toNat + d.2.2))))))[0]? = some (.row 0 (ints (rowF 10 (fun _ => 0)))) := by rw [List.getElem?_set_ne (by omega)]; exact t0
    have ur : (U.set 1 (O.row 0 (ints (rowF 10 (upd F d.2.1.toNat (F d.2.1.toNat + d.2.2))))))[ri]? = some (O.row 0 [V.i IntKind.i64 d.1, V.i IntKind.i64 d.2.1, V.i IntKind.i64 d.2.2]) := by rw [List.getElem?_set_ne (fun h => hrl h.symm)]; exact tr
    generalize U.set 1 (O.row 0 (ints (rowF 10 (upd F d.2.1.toNat (F d.2.1.toNat + d.2.2))))) = W at *
    generalize hG : upd F d.2.1.toNat (F d.2.1.toNat + d.2.2) = G at *
    obtain ⟨hur, ur'⟩ := List.getElem?_eq_some_iff.1 ur
    obtain ⟨hu1, u1'⟩ := List.getElem?_eq_some_iff.1 u1
    simp [abDs_consU, drU, recheck_cons, recheck_nil, rcK, IS.dst, ur, ur', u1, u1', b1, b2, rowF_get hfr, wrap64 (x := G d.1.toNat - d.2.2) (by omega) (by omega)]
    rw [ints_set, rowF_set]
    refine h11 _ _ _ ?_
    refine h10 _ _ _ ?_
    simp [wrap64 (x := (i : Int) + 1) (by omega) (by omega)]
    refine h7 _ _ _ (again (m - 1) (by omega) ⟨i + 1, by omega, by simp, ?_, ?_⟩)
    · rw [List.getElem?_set_ne (by omega)]; exact u0
    · rw [List.getElem?_set_self hu1, hst2, rowF_set, hG, rowF_set]
  · have hil : i = D.length := by simp at hc; omega
    subst hil
    rw [List.take_length] at s1
    obtain ⟨hs1, s1'⟩ := List.getElem?_eq_some_iff.1 s1
    obtain ⟨hs0, s0'⟩ := List.getElem?_eq_some_iff.1 s0
    simp
    refine h6 _ _ _ ?_
    refine h4 _ _ _ ?_
    refine ab_seq_k fun K20 h20 => ?_
    simp [s1, s1', s0, s0']
    refine h20 _ _ _ ?_
    clear h20 K20
    have e1 : List.take 10 (ints (rowF 10 (balF D))) = ints (rowF 10 (balF D)) := List.take_of_length_le (by simp)
    have e2 : List.drop 10 (ints (rowF 10 fun x => 0)) = [] := List.drop_eq_nil_of_le (by simp)
    rw [e1, e2, List.append_nil]
    have w0 : (σ.set 0 (O.row 0 (ints (rowF 10 (balF D)))))[0]? = some (O.row 0 (ints (rowF 10 (balF D)))) := List.getElem?_set_self hs0
    generalize σ.set 0 (O.row 0 (ints (rowF 10 (balF D)))) = W at *
    obtain ⟨hw0, w0'⟩ := List.getElem?_eq_some_iff.1 w0
    simp
    refine fin_of 1 ?_
    simp [rs57, w0, w0', hw0]
    rw [e1]
    simp

theorem set_app1 {σ : List O} {x y z : O} : (σ ++ [x, y]).set (σ.length + 1) z = σ ++ [x, z] := by
  rw [List.set_append_right _ _ (by omega)]
  simp
theorem bal47_ab {n M : Int} {N : Nat} {D : List Db} {f : Bool} {σ : List O} {K : Kt} (hM : 0 ≤ M) (hM2 : M ≤ 40000000) (hD : DbOK n M D) (hl : D.length ≤ 50) (hN : n = (N : Int)) (hN2 : N ≤ 10)
    (hK : ∀ env, get env 2 = .s (σ.length + 1) 0 0 N 1 → K (some 0) env (σ ++ [O.row 0 (bookC n D f), O.row 0 (ints (rowF N (balF D)))])) :
    ab Try.prog noY noIt σ.length ic47 K [] K (some 0) (entry 0 [bookV n D f]) σ := by
  subst hN
  rw [ic47]
  refine ab_seq_k fun K1 h1 => ?_
  simp
  refine h1 _ _ _ ?_
  clear h1 K1
  refine ab_seq_k fun K2 h2 => ?_
  have s0 : (σ ++ [O.row 0 (bookC N D f)])[σ.length]? = some (.row 0 (bookC N D f)) := by simp
  have er : rep N [V.i IntKind.i64 0] = ints (rowF N (balF (D.take 0))) := by
    have : rowF N (balF (D.take 0)) = List.replicate N 0 := rowF_zero
    rw [this]; simp [rep, ints, List.flatten_replicate_singleton]
  simp [s0, get0_bookC]
  refine ⟨by omega, by omega, ?_⟩
  rw [er]
  refine h2 _ _ _ ?_
  clear h2 K2 s0 er
  refine ab_seq_k fun K3 h3 => ?_
  refine ab_seq_k fun K4 h4 => ?_
  simp
  refine h4 _ _ _ ?_
  clear h4 K4
  refine ab_block_k fun K5 h5 => ?_
  refine ab_loop_k (fun m env U => ∃ i : Nat, i + m = D.length ∧ env = [(1, .p σ.length 0 0), (3, .s (σ.length + 1) 0 0 N 1), (4, .i .i64 i)] ∧ U = σ ++ [O.row 0 (bookC N D f), O.row 0 (ints (rowF N (balF (D.take i))))]) D.length ⟨0, by omega, by simp, by simp⟩ ?_
  rintro m env U ⟨i, hi, rfl, hU⟩ K6 h6
  have s0 : U[σ.length]? = some (O.row 0 (bookC N D f)) := by rw [hU]; simp
  have s1 : U[σ.length + 1]? = some (O.row 0 (ints (rowF N (balF (D.take i))))) := by rw [hU]; simp
  obtain ⟨hs0, s0'⟩ := List.getElem?_eq_some_iff.1 s0
  obtain ⟨hs1, s1'⟩ := List.getElem?_eq_some_iff.1 s1
  rw [ic47_0]
  refine ab_seq_k fun K7 h7 => ?_
  refine ab_seq_k fun K8 h8 => ?_
  simp [s0, s0', get1_bookC]
  refine h8 _ _ _ ?_
  clear h8 K8
  refine ab_cond_of rfl (fun hc => ?_) (fun hc => ?_)
  · have hil : i < D.length := by simpa using hc
    obtain ⟨d, hd⟩ : ∃ d, D[i]? = some d := ⟨_, List.getElem?_eq_getElem hil⟩
    obtain ⟨z1, z2, z3, z4⟩ := lsD_get hd
    obtain ⟨hz2, z2'⟩ := List.getElem?_eq_some_iff.1 z2
    obtain ⟨hz3, z3'⟩ := List.getElem?_eq_some_iff.1 z3
    obtain ⟨hz4, z4'⟩ := List.getElem?_eq_some_iff.1 z4
    obtain ⟨⟨b1, b2⟩, ⟨b3, b4⟩, b5, b6, b7⟩ := hD d (List.mem_of_getElem? hd)
    have hbs := fun k => balF_small hM hM2 hD hl k i (by omega)
    have hstep := fun k => balF_take (i := k) hd
    have hst2 : rowF N (balF (D.take (i + 1))) = ((rowF N (balF (D.take i))).set d.2.1.toNat (balF (D.take i) d.2.1.toNat + d.2.2)).set d.1.toNat (upd (balF (D.take i)) d.2.1.toNat (balF (D.take i) d.2.1.toNat + d.2.2) d.1.toNat - d.2.2) := by
      rw [rowF_set, rowF_set]
      refine rowF_congr fun k _ => ?_
      rw [upd_dlt ⟨b1, b2⟩ ⟨b3, b4⟩ b5]
      exact hstep k
    simp
    refine h7 _ _ _ ?_
    clear h7 K7
    refine ab_seq_k fun K10 h10 => ?_
    refine ab_block_k fun K11 h11 => ?_
    generalize hF : balF (D.take i) = F at *
    have hto : d.2.1.toNat < N := by omega
    have hfr : d.1.toNat < N := by omega
    have hbt := hbs d.2.1.toNat
    have hbf := hbs d.1.toNat
    refine ab_seq_k fun K13 h13 => ?_
    simp [abDs_consU, drU, recheck_cons, recheck_nil, rcK, IS.dst, s0, s0', s1, s1', get1_bookC, hil, z2, z2', z3, z3', z4, z4', b3, b4, hto, rowF_get hto, wrap64 (x := F d.2.1.toNat + d.2.2) (by omega) (by omega)]
    rw [ints_set, rowF_set]
    refine h13 _ _ _ ?_
    clear h13 K13
    have hF1 : ∀ k, upd F d.2.1.toNat (F d.2.1.toNat + d.2.2) k = if k = d.2.1.toNat then F d.2.1.toNat + d.2.2 else F k := fun k => rfl
    have hbg := hF1 d.1.toNat
    rw [if_neg (by omega)] at hbg
    have hset : U.set (σ.length + 1) (O.row 0 (ints (rowF N (upd F d.2.1.toNat (F d.2.1.toNat + d.2.2))))) = σ ++ [O.row 0 (bookC N D f), O.row 0 (ints (rowF N (upd F d.2.1.toNat (F d.2.1.toNat + d.2.2))))] := by rw [hU, set_app1]
    rw [hset]
    generalize hG : upd F d.2.1.toNat (F d.2.1.toNat + d.2.2) = G at *
    have u0 : (σ ++ [O.row 0 (bookC N D f), O.row 0 (ints (rowF N G))])[σ.length]? = some (O.row 0 (bookC N D f)) := by simp
    have u1 : (σ ++ [O.row 0 (bookC N D f), O.row 0 (ints (rowF N G))])[σ.length + 1]? = some (O.row 0 (ints (rowF N G))) := by simp
    generalize hW : σ ++ [O.row 0 (bookC N D f), O.row 0 (ints (rowF N G))] = W at *
    obtain ⟨hu0, u0'⟩ := List.getElem?_eq_some_iff.1 u0
    obtain ⟨hu1, u1'⟩ := List.getElem?_eq_some_iff.1 u1
    simp [abDs_consU, drU, recheck_cons, recheck_nil, rcK, IS.dst, u0, u0', u1, u1', get1_bookC, hil, z2, z2', z3, z3', z4, z4', b1, b2, hfr, rowF_get hfr, wrap64 (x := G d.1.toNat - d.2.2) (by omega) (by omega)]
    rw [ints_set, rowF_set]
    refine h11 _ _ _ ?_
    refine h10 _ _ _ ?_
    simp [wrap64 (x := (i : Int) + 1) (by omega) (by omega)]
    refine h6 _ _ _ (again (m - 1) (by omega) ⟨i + 1, by omega, by simp, ?_⟩)
    rw [← hW, set_app1, hst2, rowF_set, hG, rowF_set]
  · have hil : i = D.length := by simp at hc; omega
    subst hil
    rw [List.take_length] at hU
    subst hU
    simp
    refine h5 _ _ _ ?_
    refine h3 _ _ _ ?_
    refine ab_seq_k fun K20 h20 => ?_
    simp
    refine h20 _ _ _ ?_
    clear h20 K20
    simp
    exact hK _ rfl
/-- Balances, of a slice that may be changed. -/
theorem bal47m {n M : Int} {N : Nat} {D : List Db} {f : Bool} {σ : List O} (hM : 0 ≤ M) (hM2 : M ≤ 40000000) (hD : DbOK n M D) (hl : D.length ≤ 50) (hN : n = (N : Int)) (hN2 : N ≤ 10) :
    FSpec Try.prog 47 [bookV n D f] σ (.s (σ.length + 1) 0 0 N 1) (σ ++ [O.row 0 (bookC n D f), O.row 0 (ints (rowF N (balF D)))]) := by
  refine fn47.spec mixed noIt_ok ?_
  refine bal47_ab hM hM2 hD hl hN hN2 fun env w => ?_
  refine fin_all ?_
  simp [rs47, w]
theorem bal47 {n M : Int} {N : Nat} {D : List Db} {f : Bool} (hM : 0 ≤ M) (hM2 : M ≤ 40000000) (hD : DbOK n M D) (hl : D.length ≤ 50) (hN : n = (N : Int)) (hN2 : N ≤ 10) :
    FSpec Try.prog 47 [bookV n D f] [] (sl (rowF N (balF D)) false) [] := by
  refine fn47.spec0 mixed noIt_ok ?_
  refine bal47_ab (σ := []) hM hM2 hD hl hN hN2 fun env w => ?_
  refine fin_of 2 ?_
  simp [-frz, rs47, w]
  have h := frz_ints (k := 0) (n := 0) (id := 1) (ver := 0) (σ := [O.row 0 (bookC n D f), O.row 0 (ints (rowF N (balF D)))]) (l := rowF N (balF D)) rfl (Nat.zero_le _)
  rw [rowF_len] at h
  rw [h]
  simp
end Go.Ab
