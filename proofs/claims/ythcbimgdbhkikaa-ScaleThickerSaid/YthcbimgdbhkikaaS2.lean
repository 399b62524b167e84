import Derived.Test.YthcbimgdbhkikaaS1
import Derived.Test.YthcbimgdbhkikaaW1
/-! S2: made of U7 U8 U9 UA UB -/
section
/- The references' small functions: stems, rules, logs. -/
set_option linter.unusedVariables false
set_option linter.unusedSimpArgs false
set_option maxHeartbeats 4000000
namespace Go.Ab
open Go Go.Proofs

theorem getD_get {l : List Int} {i : Nat} (h : i < l.length) : l[i]? = some (l.getD i 0) ∧ l[i]'h = l.getD i 0 ∧ l.getD i 0 ∈ l := by
  have h1 : l[i]? = some (l.getD i 0) := by rw [List.getD_eq_getElem?_getD, List.getElem?_eq_getElem h]; rfl
  refine ⟨h1, ?_, List.mem_of_getElem? h1⟩
  rw [List.getElem?_eq_getElem h] at h1
  exact Option.some.inj h1

theorem refWithin {n lo hi : Int} : FSpec Try.prog 59 [.i .i64 n, .i .i64 lo, .i .i64 hi] [] (.b (fit lo hi n)) [] := by
  refine fn59.spec0 mixed noIt_ok ?_
  rw [ic59]
  refine ab_seq_k fun K1 h1 => ?_
  simp
  refine h1 _ _ _ ?_
  refine ab_seq_k fun K2 h2 => ?_
  by_cases h : lo ≤ n <;> simp [h] <;> (refine h2 _ _ _ ?_; simp; exact fin_of 1 (by simp [rs59, fit, h]))

theorem refLong {ts : List V} {n : Nat} {ft : Bool} {x : V} (hn : (n : Int) < 1000000000) : FSpec Try.prog 43 [.agg [.ss ts n ft, x]] [] (.i .i64 ((n : Int) - 1)) [] := by
  refine fn43.spec0 mixed noIt_ok ?_
  rw [ic43]
  refine ab_seq_k fun K1 h1 => ?_
  simp
  refine h1 _ _ _ ?_
  refine ab_seq_k fun K2 h2 => ?_
  simp [wrap64 (x := (n : Int) - 1) (by omega) (by omega)]
  refine h2 _ _ _ ?_
  simp
  exact fin_of 1 (by simp [rs43])

def stHeap (t b : List Int) (ft fb : Bool) : List O := [.row 0 [sl t ft, sl b fb]]

def inv21_0 (t b : List Int) (ft fb : Bool) (m : Nat) (env : Env) (σ : List O) : Prop :=
  ∃ i : Nat, i + m = t.length ∧ (t.take i).all (fit 0 60) = true ∧ env = [(1, .p 0 0 0), (3, .i .i64 i)] ∧ σ = stHeap t b ft fb
def inv21_1 (t b : List Int) (ft fb : Bool) (m : Nat) (env : Env) (σ : List O) : Prop :=
  ∃ i : Nat, 1 ≤ i ∧ i + m = t.length ∧ (∀ k, k + 1 < i → t.getD (k + 1) 0 ≤ t.getD k 0) ∧ env = [(1, .p 0 0 0), (4, .i .i64 i)] ∧ σ = stHeap t b ft fb
def nextOf (b : List Int) (i : Nat) : Int := if i = 0 then 0 else b.getD (i - 1) 0 + 1
def inv21_2 (t b : List Int) (ft fb : Bool) (m : Nat) (env : Env) (σ : List O) : Prop :=
  ∃ i : Nat, i + m = b.length ∧ 0 ≤ nextOf b i ∧ badFrom t.length 0 b = badFrom t.length (nextOf b i) (b.drop i) ∧ env = [(1, .p 0 0 0), (5, .i .i64 i)] ∧ σ = stHeap t b ft fb

theorem refStem {t b : List Int} {ft fb : Bool} (ht : (t.length : Int) < 1000000000) (hb : (b.length : Int) < 1000000000) (hbb : ∀ x ∈ b, -9223372036854775808 ≤ x ∧ x < 9223372036854775808) : FSpec Try.prog 21 [.agg [sl t ft, sl b fb]] [] (.i .i64 (checkStem t b)) [] := by
  refine fn21.spec0 mixed noIt_ok ?_
  rw [ic21]
  have quit : ∀ {n : Int} {env σ K E}, n = checkStem t b → ab Try.prog noY noIt 0 ((IC.reg [IS.op (some 2) none (IOp.mov (Od.c (V.i IntKind.i64 n)))] (some [2])).seq IC.ret) K E (finK rs21 [] (V.i IntKind.i64 (checkStem t b)) []) (some 0) env σ := by
    intro n env σ K E hn
    refine ab_seq_k fun K1 h1 => ?_
    simp
    refine h1 _ _ _ ?_
    simp
    exact fin_of 1 (by simp [rs21, hn])
  refine ab_seq_k fun K1 h1 => ?_
  simp
  refine h1 _ _ _ ?_
  clear h1 K1
  refine ab_seq_k fun K2 h2 => ?_
  refine ab_seq_k fun K3 h3 => ?_
  have c1 : ∀ {env v}, v = !fit 2 61 t.length → get env 1 = .p 0 0 0 → get env 15 = .b v → K3 (some 0) env (stHeap t b ft fb) := by
    intro env v hv e1 e2
    refine h3 _ _ _ ?_
    refine ab_cond_of e2 (fun hc => quit (by simp [checkStem, ← hv, hc])) (fun hc => ?_)
    have f1 : fit 2 61 t.length = true := by rw [hc] at hv; simpa using hv.symm
    have f1' := f1
    simp only [fit, Bool.and_eq_true, decide_eq_true_eq] at f1'
    simp
    refine h2 _ _ _ ?_
    clear h2 h3
    refine ab_seq_k fun K5 h5 => ?_
    refine ab_seq_k fun K6 h6 => ?_
    simp [e1]
    refine h6 _ _ _ ?_
    clear h6 K6
    refine ab_block_k fun K7 h7 => ?_
    refine ab_loop_k (inv21_0 t b ft fb) t.length ⟨0, by omega, by simp, by simp, rfl⟩ ?_
    rintro m env σ ⟨i, hi, hall, rfl, rfl⟩ K8 h8
    rw [ic21_0]
    refine ab_seq_k fun K9 h9 => ?_
    refine ab_seq_k fun K10 h10 => ?_
    simp [stHeap]
    refine h10 _ _ _ ?_
    refine ab_cond_of rfl (fun hc => ?_) (fun hc => ?_)
    · have hlt : i < t.length := by simp at hc; omega
      obtain ⟨g1, k1, hmem⟩ := getD_get hlt
      have htake : t.take (i + 1) = t.take i ++ [t.getD i 0] := by rw [List.take_add_one, g1]; rfl
      generalize t.getD i 0 = x at *
      simp
      refine h9 _ _ _ ?_
      refine ab_seq_k fun K11 h11 => ?_
      refine ab_block_k fun K12 h12 => ?_
      refine ab_seq_k fun K13 h13 => ?_
      simp [hlt, g1, k1]
      refine callK_of (FSpec.frame refWithin (by simp) rfl) ?_
      simp
      refine h13 _ _ _ ?_
      refine ab_cond_of rfl (fun hc => quit ?_) (fun hc => ?_)
      · have : t.all (fit 0 60) = false := by
          rw [List.all_eq_false]
          exact ⟨x, hmem, by simpa using hc⟩
        simp [checkStem, f1, this]
      · simp
        refine h12 _ _ _ ?_
        refine h11 _ _ _ ?_
        simp [wrap64 (x := (i : Int) + 1) (by omega) (by omega)]
        refine h8 _ _ _ (again (m - 1) (by omega) ⟨i + 1, by omega, ?_, by simp, rfl⟩)
        rw [htake, List.all_append, hall]
        simpa using hc
    · have hlt : i = t.length := by simp at hc; omega
      subst hlt
      have f2 : t.all (fit 0 60) = true := by simpa using hall
      simp
      refine h7 _ _ _ ?_
      refine h5 _ _ _ ?_
      clear h5 h7 h8 h9 h10
      refine ab_seq_k fun K15 h15 => ?_
      refine ab_seq_k fun K16 h16 => ?_
      simp
      refine h16 _ _ _ ?_
      clear h16 K16
      refine ab_block_k fun K17 h17 => ?_
      refine ab_loop_k (inv21_1 t b ft fb) (t.length - 1) ⟨1, by omega, by omega, by omega, by simp, rfl⟩ ?_
      rintro m env σ ⟨i, h1i, hi, hfall, rfl, rfl⟩ K18 h18
      rw [ic21_1]
      refine ab_seq_k fun K19 h19 => ?_
      refine ab_seq_k fun K20 h20 => ?_
      simp [stHeap]
      refine h20 _ _ _ ?_
      refine ab_cond_of rfl (fun hc => ?_) (fun hc => ?_)
      · have hlt : i < t.length := by simp at hc; omega
        obtain ⟨j, rfl⟩ : ∃ j, i = j + 1 := ⟨i - 1, by omega⟩
        obtain ⟨g1, k1, hmem⟩ := getD_get hlt
        obtain ⟨g2, k2, hmem2⟩ := getD_get (show j < t.length by omega)
        generalize hx : t.getD (j + 1) 0 = x at *
        generalize hy : t.getD j 0 = y at *
        simp
        refine h19 _ _ _ ?_
        refine ab_seq_k fun K21 h21 => ?_
        refine ab_block_k fun K22 h22 => ?_
        refine ab_seq_k fun K23 h23 => ?_
        have e3 : ((j : Int) + 1).toNat = j + 1 := by omega
        have e4 : (j : Int) + 1 < t.length := by omega
        have e5 : (0 : Int) ≤ (j : Int) + 1 := by omega
        have e6 : (j : Int) < t.length := by omega
        have e7 : (j : Int) + 1 - 1 = j := by omega
        simp [e3, e4, e5, e6, e7, g1, k1, g2, k2, show j < t.length by omega, show j + 1 < t.length by omega, wrap64 (x := (j : Int)) (by omega) (by omega)]
        refine h23 _ _ _ ?_
        refine ab_cond_of rfl (fun hcc => quit ?_) (fun hcc => ?_)
        · have : ¬ falling t := fun hf => by
            have := hf j (by omega)
            rw [hx, hy] at this
            simp at hcc
            omega
          simp [checkStem, f1, f2, this]
        · simp
          refine h22 _ _ _ ?_
          refine h21 _ _ _ ?_
          simp [wrap64 (x := (j : Int) + 1 + 1) (by omega) (by omega)]
          refine h18 _ _ _ (again (m - 1) (by omega) ⟨j + 2, by omega, by omega, ?_, by simp; omega, rfl⟩)
          intro k hk
          by_cases hkj : k = j
          · rw [hkj, hx, hy]; simpa using hcc
          · exact hfall k (by omega)
      · have hlt : i = t.length := by simp at hc; omega
        subst hlt
        have f3 : falling t := fun k hk => hfall k (by omega)
        simp
        refine h17 _ _ _ ?_
        refine h15 _ _ _ ?_
        clear h15 h17 h18 h19 h20
        refine ab_seq_k fun K25 h25 => ?_
        refine ab_seq_k fun K26 h26 => ?_
        simp
        refine h26 _ _ _ ?_
        clear h26 K26
        refine ab_block_k fun K27 h27 => ?_
        refine ab_loop_k (inv21_2 t b ft fb) b.length ⟨0, by omega, by simp [nextOf], by simp [nextOf], by simp, rfl⟩ ?_
        rintro m env σ ⟨i, hi, hnx, hbf, rfl, rfl⟩ K28 h28
        rw [ic21_2]
        refine ab_seq_k fun K29 h29 => ?_
        refine ab_seq_k fun K30 h30 => ?_
        simp [stHeap]
        refine h30 _ _ _ ?_
        refine ab_cond_of rfl (fun hc => ?_) (fun hc => ?_)
        · have hlt : i < b.length := by simp at hc; omega
          obtain ⟨g1, k1, hmem⟩ := getD_get hlt
          have hdrop : b.drop i = b.getD i 0 :: b.drop (i + 1) := by rw [List.drop_eq_getElem_cons hlt, k1]
          have hnext : nextOf b (i + 1) = b.getD i 0 + 1 := by simp [nextOf]
          generalize hx : b.getD i 0 = x at *
          simp
          refine h29 _ _ _ ?_
          refine ab_seq_k fun K31 h31 => ?_
          refine ab_block_k fun K32 h32 => ?_
          refine ab_seq_k fun K33 h33 => ?_
          have go : ∀ {env v}, v = !fit (nextOf b i) (t.length - 2) x → get env 1 = .p 0 0 0 → get env 5 = .i .i64 i → get env 89 = .b v → K33 (some 0) env (stHeap t b ft fb) := by
            intro env v hv e1 e2 e3
            refine h33 _ _ _ ?_
            refine ab_cond_of e3 (fun hc => quit ?_) (fun hc => ?_)
            · have : badFrom t.length 0 b = false := by
                rw [hbf, hdrop, badFrom]
                rw [hc] at hv
                rw [show fit (nextOf b i) ((t.length : Int) - 2) x = false by simpa using hv.symm]
                rfl
              simp [checkStem, f1, f2, f3, this]
            · rw [hc] at hv
              have hv' : fit (nextOf b i) ((t.length : Int) - 2) x = true := by simpa using hv.symm
              have hv'' := hv'
              simp only [fit, Bool.and_eq_true, decide_eq_true_eq] at hv''
              simp
              refine h32 _ _ _ ?_
              refine h31 _ _ _ ?_
              simp [e1, e2, wrap64 (x := (i : Int) + 1) (by omega) (by omega)]
              refine h28 _ _ _ (again (m - 1) (by omega) ⟨i + 1, by omega, by rw [hnext]; omega, ?_, by simp, rfl⟩)
              rw [hbf, hdrop, badFrom, hv', hnext]
              rfl
          have hi5 : (i : Int) < b.length := by omega
          by_cases c1 : x < 0
          · simp [c1, hi5, g1, k1]
            refine go (v := true) ?_ ?_ ?_ ?_ <;> first | rfl | (simp [fit]; omega)
          · simp [c1, hi5, g1, k1]
            refine callK_of (FSpec.frame (refLong (x := sl b fb) (by omega)) (by simp) rfl) ?_
            simp
            by_cases c2 : (t.length : Int) - 1 ≤ x
            · simp [c2]
              refine go (v := true) ?_ ?_ ?_ ?_ <;> first | rfl | (simp [fit]; omega)
            · simp [c2]
              by_cases c3 : i = 0
              · subst c3
                simp
                refine go (v := false) ?_ ?_ ?_ ?_ <;> first | rfl | (simp [fit, nextOf]; omega)
              · obtain ⟨j, rfl⟩ : ∃ j, i = j + 1 := ⟨i - 1, by omega⟩
                obtain ⟨g2, k2, hmem2⟩ := getD_get (show j < b.length by omega)
                have hnj : nextOf b (j + 1) = b.getD j 0 + 1 := by simp [nextOf]
                have hyb := hbb _ hmem2
                generalize hy : b.getD j 0 = y at *
                have e3 : ((j : Int) + 1).toNat = j + 1 := by omega
                have e5 : (0 : Int) ≤ (j : Int) + 1 := by omega
                have e6 : (j : Int) < b.length := by omega
                have e7 : (j : Int) + 1 - 1 = j := by omega
                have e8 : (0 : Int) < (j : Int) + 1 := by omega
                have hi5' : (j : Int) + 1 < b.length := by omega
                simp [e3, e5, e6, e7, e8, hi5', g1, k1, g2, k2, show j < b.length by omega, wrap64 (x := (j : Int)) (by omega) (by omega)]
                refine go (v := decide (x ≤ y)) ?_ ?_ ?_ ?_ <;> try rfl
                rw [hnj]
                by_cases c4 : x ≤ y
                · simp [fit, c4]; omega
                · simp [fit, c4]; omega
        · have hlt : i = b.length := by simp at hc; omega
          subst hlt
          simp
          refine h27 _ _ _ ?_
          refine h25 _ _ _ ?_
          refine quit ?_
          rw [List.drop_length, badFrom] at hbf
          simp [checkStem, f1, f2, f3, hbf]
  by_cases hs : (t.length : Int) < 2
  · simp [hs]
    exact c1 (v := true) (by simp [fit]; omega) (by simp) (by simp)
  · simp [hs]
    refine c1 (v := decide (61 < (t.length : Int))) ?_ rfl rfl
    by_cases c4 : 61 < (t.length : Int)
    · simp [fit, c4]
    · simp [fit, c4]; omega

theorem refRule {r : Ru} : FSpec Try.prog 23 [.agg r.cells] [] (.i .i64 r.check) [] := by
  refine fn23.spec0 mixed noIt_ok ?_
  rw [ic23]
  have bad : ∀ {env σ K E}, r.ok = false → ab Try.prog noY noIt 0 ((IC.reg [IS.op (some 2) none (IOp.mov (Od.c (V.i IntKind.i64 3)))] (some [2])).seq IC.ret) K E (finK rs23 [] (V.i IntKind.i64 r.check) []) (some 0) env σ := by
    intro env σ K E hr
    refine ab_seq_k fun K1 h1 => ?_
    simp
    refine h1 _ _ _ ?_
    simp
    exact fin_of 1 (by simp [rs23, Ru.check, hr])
  refine ab_seq_k fun K1 h1 => ?_
  simp [Ru.cells]
  refine h1 _ _ _ ?_
  clear h1 K1
  refine ab_seq_k fun K2 h2 => ?_
  refine ab_seq_k fun K3 h3 => ?_
  simp
  have c1 : ∀ {env v}, get env 37 = .b v → get env 1 = .p 0 0 0 → v = !(decide (1 ≤ r.least) && decide (r.least ≤ r.most) && decide (r.most ≤ 60) && fit 1 10 r.step && fit 0 5 r.trim) → K3 (some 0) env [.row 0 r.cells] := by
    intro env v e2 e1 hv
    refine h3 _ _ _ ?_
    refine ab_cond_of e2 (fun hc => bad ?_) (fun hc => ?_)
    · rw [hc] at hv
      have hv := hv.symm
      simp only [Bool.not_eq_true'] at hv
      simp only [Ru.ok]
      rw [show fit 1 r.most r.least = (decide (1 ≤ r.least) && decide (r.least ≤ r.most)) from rfl, hv]
      simp
    · rw [hc] at hv
      have hv : (decide (1 ≤ r.least) && decide (r.least ≤ r.most) && decide (r.most ≤ 60) && fit 1 10 r.step && fit 0 5 r.trim) = true := by simpa using hv.symm
      simp
      refine h2 _ _ _ ?_
      clear h2 h3
      refine ab_seq_k fun K5 h5 => ?_
      refine ab_seq_k fun K6 h6 => ?_
      have c2 : ∀ {env σ v}, v = !(fit 0 20 r.off && fit 1 100 r.div && fit 0 60 r.thin) → get env 53 = .b v → K6 (some 0) env σ := by
        intro env σ v hv2 e3
        have hok : r.ok = !v := by
          rw [hv2]
          simp only [Ru.ok]
          rw [show fit 1 r.most r.least = (decide (1 ≤ r.least) && decide (r.least ≤ r.most)) from rfl, hv]
          simp
        refine h6 _ _ _ ?_
        refine ab_cond_of e3 (fun hc => bad (by rw [hok, hc]; rfl)) (fun hc => ?_)
        simp
        refine h5 _ _ _ ?_
        refine ab_seq_k fun K8 h8 => ?_
        simp
        refine h8 _ _ _ ?_
        simp
        exact fin_of 1 (by simp [rs23, Ru.check, hok, hc])
      simp [e1, Ru.cells]
      refine callK_of (FSpec.frame refWithin (by simp) rfl) ?_
      cases f1 : fit 0 20 r.off with
      | false => simp; exact c2 (v := true) (by simp [f1]) (by simp)
      | true =>
        simp [e1]
        refine callK_of (FSpec.frame refWithin (by simp) rfl) ?_
        cases f2 : fit 1 100 r.div with
        | false => simp; exact c2 (v := true) (by simp [f2]) (by simp)
        | true =>
          simp [e1]
          refine callK_of (FSpec.frame refWithin (by simp) rfl) ?_
          cases f3 : fit 0 60 r.thin with
          | false => simp; exact c2 (v := true) (by simp [f3]) (by simp)
          | true => simp; exact c2 (v := false) (by simp [f1, f2, f3]) (by simp)
  clear h3
  repeat' (refine opG_split (fun c => ?_) (fun c => ?_) <;> simp [c])
  all_goals
    apply c1
    · rfl
    · rfl
    first | (simp_all [fit]; done) | (simp_all [fit]; omega) | (rw [Bool.eq_iff_iff]; simp_all [fit]; omega) | (by_cases h5 : r.trim ≤ 5 <;> simp_all [fit] <;> omega)

theorem refCheck {t b : List Int} {ft fb : Bool} {r : Ru} (ht : (t.length : Int) < 1000000000) (hb : (b.length : Int) < 1000000000) (hbb : ∀ x ∈ b, -9223372036854775808 ≤ x ∧ x < 9223372036854775808) :
    FSpec Try.prog 53 [.agg [sl t ft, sl b fb], .agg r.cells] [] (.i .i64 (if checkStem t b = 0 then r.check else checkStem t b)) [] := by
  refine fn53.spec0 mixed noIt_ok ?_
  rw [ic53]
  refine ab_seq_k fun K1 h1 => ?_
  simp [Ru.cells]
  refine h1 _ _ _ ?_
  clear h1 K1
  refine ab_seq_k fun K2 h2 => ?_
  refine ab_seq_k fun K3 h3 => ?_
  simp
  refine callK_of (FSpec.frame (refStem ht hb hbb) (by simp) rfl) ?_
  simp
  refine h3 _ _ _ ?_
  refine ab_cond_of rfl (fun hc => ?_) (fun hc => ?_)
  · refine ab_seq_k fun K4 h4 => ?_
    simp
    refine callK_of (FSpec.frame (refStem ht hb hbb) (by simp) rfl) ?_
    simp
    refine h4 _ _ _ ?_
    simp
    simp at hc
    exact fin_of 1 (by simp [rs53, hc])
  · simp
    simp at hc
    refine h2 _ _ _ ?_
    refine ab_seq_k fun K5 h5 => ?_
    simp
    refine callK_of (FSpec.frame (refRule (r := r)) (by simp [Ru.cells]) rfl) ?_
    simp
    refine h5 _ _ _ ?_
    simp
    exact fin_of 1 (by simp [rs53, hc])

/-- Two places. -/
def isLog (n : Nat) (x y : Int) : Bool := decide (0 ≤ x) && decide (x < y) && decide (y ≤ (n : Int) - 1)

theorem refIsLog {t b : List Int} {ft fb : Bool} {x y : Int} (ht : (t.length : Int) < 1000000000) : FSpec Try.prog 54 [.agg [sl t ft, sl b fb], .agg [.i .i64 x, .i .i64 y]] [] (.b (isLog t.length x y)) [] := by
  refine fn54.spec0 mixed noIt_ok ?_
  rw [ic54]
  refine ab_seq_k fun K1 h1 => ?_
  simp
  refine h1 _ _ _ ?_
  refine ab_seq_k fun K2 h2 => ?_
  have c1 : ∀ {env σ v}, v = isLog t.length x y → get env 4 = .b v → K2 (some 0) env σ := by
    intro env σ v hv e1
    refine h2 _ _ _ ?_
    simp
    exact fin_of 1 (by simp [rs54, e1, hv])
  by_cases e1 : 0 ≤ x
  · by_cases e2 : x < y
    · simp [e1, e2]
      refine callK_of (FSpec.frame (refLong (x := sl b fb) ht) (by simp) rfl) ?_
      simp
      exact c1 (v := decide (y ≤ (t.length : Int) - 1)) (by simp [isLog, e1, e2]) rfl
    · simp [e1, e2]
      exact c1 (v := false) (by simp [isLog, e1, e2]) rfl
  · simp [e1]
    exact c1 (v := false) (by simp [isLog, e1]) rfl

/-- What a log scales; 0: it is not right. -/
def scaleP (t b : List Int) (r : Ru) (x y : Int) : Int :=
  if hasBad b x y then 0 else if y - x - r.trim < r.least ∨ r.most < y - x - r.trim ∨ (y - x - r.trim).tmod r.step ≠ 0 ∨ t.getD y.toNat 0 < r.thin then 0 else scaleN t r y (y - x - r.trim)

def inv45 (t b : List Int) (ft fb : Bool) (r : Ru) (x y : Int) (m : Nat) (env : Env) (σ : List O) : Prop :=
  ∃ i : Nat, i + m = b.length ∧ hasBad (b.take i) x y = false ∧ env = [(2, .i .i64 x), (3, .i .i64 y), (4, .p 0 0 0), (5, .p 1 0 0), (9, .i .i64 i)] ∧ σ = [.row 0 [sl t ft, sl b fb], .row 0 r.cells]

theorem refScale {t b : List Int} {ft fb : Bool} {r : Ru} {x y : Int} (h61 : t.length ≤ 61) (hv : ∀ x ∈ t, 0 ≤ x ∧ x ≤ 60) (hb : (b.length : Int) < 1000000000) (hr : RuB r) (hx : 0 ≤ x) (hxy : x < y) (hy : y < t.length) :
    FSpec Try.prog 45 [.agg [sl t ft, sl b fb], .agg r.cells, .i .i64 x, .i .i64 y] [] (.i .i64 (scaleP t b r x y)) [] := by
  obtain ⟨l1, l2, m1, s1, s2, t1, t2, o1, o2, d1, d2, th1, th2⟩ := hr
  refine fn45.spec0 mixed noIt_ok ?_
  rw [ic45]
  have quit : ∀ {env σ K E}, scaleP t b r x y = 0 → ab Try.prog noY noIt 0 ((IC.reg [IS.op (some 8) none (IOp.mov (Od.c (V.i IntKind.i64 0)))] (some [8])).seq IC.ret) K E (finK rs45 [] (V.i IntKind.i64 (scaleP t b r x y)) []) (some 0) env σ := by
    intro env σ K E hn
    refine ab_seq_k fun K1 h1 => ?_
    simp
    refine h1 _ _ _ ?_
    simp
    exact fin_of 1 (by simp [rs45, hn])
  refine ab_seq_k fun K1 h1 => ?_
  simp [Ru.cells]
  refine h1 _ _ _ ?_
  clear h1 K1
  refine ab_seq_k fun K2 h2 => ?_
  refine ab_seq_k fun K3 h3 => ?_
  simp
  refine h3 _ _ _ ?_
  clear h3 K3
  refine ab_block_k fun K4 h4 => ?_
  refine ab_loop_k (inv45 t b ft fb r x y) b.length ⟨0, by omega, by simp [hasBad], by simp, by simp [Ru.cells]⟩ ?_
  rintro m env σ ⟨i, hi, hprev, rfl, rfl⟩ K5 h5
  rw [ic45_0]
  refine ab_seq_k fun K6 h6 => ?_
  refine ab_seq_k fun K7 h7 => ?_
  simp [Ru.cells]
  refine h7 _ _ _ ?_
  refine ab_cond_of rfl (fun hc => ?_) (fun hc => ?_)
  · have hlt : i < b.length := by simp at hc; omega
    obtain ⟨g1, k1, hmem⟩ := getD_get hlt
    have htake : b.take (i + 1) = b.take i ++ [b.getD i 0] := by rw [List.take_add_one, g1]; rfl
    generalize b.getD i 0 = f at *
    simp
    refine h6 _ _ _ ?_
    refine ab_seq_k fun K8 h8 => ?_
    refine ab_block_k fun K9 h9 => ?_
    refine ab_seq_k fun K10 h10 => ?_
    have fin : ∀ {env v}, v = (decide (x ≤ f) && decide (f < y)) → keep env [2, 3, 4, 5, 9] = [(2, .i .i64 x), (3, .i .i64 y), (4, .p 0 0 0), (5, .p 1 0 0), (9, .i .i64 i)] → get env 35 = .b v → K10 (some 0) env [.row 0 [sl t ft, sl b fb], .row 0 r.cells] := by
      intro env v hv2 he e3
      simp at he
      obtain ⟨e4, e5, e6, e7, e8⟩ := he
      refine h10 _ _ _ ?_
      refine ab_cond_of e3 (fun hc => quit ?_) (fun hc => ?_)
      · have : hasBad b x y = true := by
          rw [hasBad, List.any_eq_true]
          exact ⟨f, hmem, by rw [← hv2]; exact hc⟩
        simp [scaleP, this]
      · simp
        refine h9 _ _ _ ?_
        refine h8 _ _ _ ?_
        simp [e4, e5, e6, e7, e8, wrap64 (x := (i : Int) + 1) (by omega) (by omega)]
        refine h5 _ _ _ (again (m - 1) (by omega) ⟨i + 1, by omega, ?_, by simp, rfl⟩)
        rw [htake]
        simp only [hasBad, List.any_append, List.any_cons, List.any_nil, Bool.or_false, Bool.or_eq_false_iff]
        exact ⟨hprev, by rw [← hv2]; exact hc⟩
    by_cases c1 : x ≤ f
    · simp [hlt, g1, k1, c1]
      exact fin (v := decide (f < y)) (by simp [c1]) (by simp) rfl
    · simp [hlt, g1, k1, c1]
      exact fin (v := false) (by simp [c1]) (by simp) rfl
  · have hlt : i = b.length := by simp at hc; omega
    subst hlt
    have hnb : hasBad b x y = false := by simpa using hprev
    simp
    refine h4 _ _ _ ?_
    refine h2 _ _ _ ?_
    clear h2 h4 h5 h6 h7
    refine ab_seq_k fun K12 h12 => ?_
    generalize hlo : y - x - r.trim = lo at *
    simp [wrap64 (x := y - x) (by omega) (by omega), hlo, wrap64 (x := lo) (by omega) (by omega), Ru.cells]
    refine h12 _ _ _ ?_
    clear h12 K12
    refine ab_seq_k fun K13 h13 => ?_
    have hyn : y.toNat < t.length := by omega
    have hy0 : 0 ≤ y := by omega
    obtain ⟨g1, k1, hmem⟩ := getD_get hyn
    have hth := hv _ hmem
    generalize hx' : t.getD y.toNat 0 = th at *
    simp [hy, hy0, g1, k1]
    refine h13 _ _ _ ?_
    clear h13 K13
    refine ab_seq_k fun K14 h14 => ?_
    refine ab_seq_k fun K15 h15 => ?_
    have c1 : ∀ {env v}, get env 69 = .b v → get env 5 = .p 1 0 0 → get env 10 = .i .i64 lo → get env 11 = .i .i64 th → v = (decide (lo < r.least) || decide (r.most < lo) || decide (lo.tmod r.step ≠ 0) || decide (th < r.thin)) → K15 (some 0) env [.row 0 [sl t ft, sl b fb], .row 0 r.cells] := by
      intro env v e4 e1 e2 e3 hv2
      refine h15 _ _ _ ?_
      refine ab_cond_of e4 (fun hc => quit ?_) (fun hc => ?_)
      · rw [hc] at hv2
        have hv2 := hv2.symm
        simp only [Bool.or_eq_true, decide_eq_true_eq] at hv2
        simp only [scaleP, hnb, Bool.false_eq_true, if_false, hlo, hx']
        rw [if_pos]
        rcases hv2 with ((h | h) | h) | h
        · exact .inl h
        · exact .inr (.inl h)
        · exact .inr (.inr (.inl h))
        · exact .inr (.inr (.inr h))
      · rw [hc] at hv2
        have hv2 := hv2.symm
        simp only [Bool.or_eq_false_iff, decide_eq_false_iff_not] at hv2
        obtain ⟨⟨⟨q1, q2⟩, q3⟩, q4⟩ := hv2
        have hsc : scaleP t b r x y = max 0 (th - r.off) * max 0 (th - r.off) * lo / r.div := by
          simp only [scaleP, hnb, Bool.false_eq_true, if_false, hlo, hx']
          rw [if_neg (by rintro (h | h | h | h) <;> first | exact q1 h | exact q2 h | exact q3 h | exact q4 h)]
          simp only [scaleN, hx']
        obtain ⟨b1, b2, b3, b4⟩ := over_bound (lo := lo) (d := 0) hth.1 hth.2 o1 (by omega) (by omega)
        have c1 : 0 ≤ max 0 (th - r.off) * max 0 (th - r.off) * lo / r.div := Int.ediv_nonneg b3 (by omega)
        have c2 : max 0 (th - r.off) * max 0 (th - r.off) * lo / r.div ≤ max 0 (th - r.off) * max 0 (th - r.off) * lo := Int.ediv_le_self _ b3
        simp
        refine h14 _ _ _ ?_
        refine ab_seq_k fun K17 h17 => ?_
        simp [e1, e2, e3, Ru.cells, wrap64 (x := th - r.off) (by omega) (by omega)]
        refine h17 _ _ _ ?_
        refine ab_seq_k fun K18 h18 => ?_
        simp [wrap64 (x := max 0 (th - r.off) * max 0 (th - r.off)) (by omega) (by omega), wrap64 (x := max 0 (th - r.off) * max 0 (th - r.off) * lo) (by omega) (by omega)]
        rw [Int.tdiv_eq_ediv_of_nonneg b3]
        simp [wrap64 (x := max 0 (th - r.off) * max 0 (th - r.off) * lo / r.div) (by omega) (by omega)]
        refine ⟨by omega, h18 _ _ _ ?_⟩
        simp
        exact fin_of 1 (by simp [rs45, hsc])
    clear h15
    simp
    repeat' (refine opG_split (fun c => ?_) (fun c => ?_) <;> simp [c])
    all_goals (try (refine ⟨by omega, ?_⟩))
    all_goals (try (refine opG_split (fun c => ?_) (fun c => ?_) <;> simp [c]))
    all_goals
      apply c1
      · rfl
      · rfl
      · rfl
      · rfl
      first | (simp_all; done) | (simp_all; omega)
end Go.Ab
end

section
/- open, isLog, Feet. -/
set_option linter.unusedVariables false
set_option linter.unusedSimpArgs false
set_option maxHeartbeats 4000000
namespace Go.Ab
open Go Go.Proofs

/-- What is asked of a stem's lists: not beyond any machine. -/
structure Sz (t b : List Int) : Prop where
  t1 : (t.length : Int) < 1000000000
  b1 : (b.length : Int) < 1000000000
  bb : ∀ x ∈ b, -9223372036854775808 ≤ x ∧ x < 9223372036854775808

theorem stem_ok {t b : List Int} (h : checkStem t b = 0) : 2 ≤ t.length ∧ t.length ≤ 61 ∧ (∀ x ∈ t, 0 ≤ x ∧ x ≤ 60) ∧ falling t ∧ badFrom t.length 0 b = true := by
  unfold checkStem at h
  split at h
  · cases h
  · rename_i h1
    split at h
    · cases h
    · rename_i h2
      split at h
      · cases h
      · rename_i h3
        split at h
        · cases h
        · rename_i h4
          simp only [Bool.not_eq_true', Bool.not_eq_false] at h1 h2 h3 h4
          simp only [fit, Bool.and_eq_true, decide_eq_true_eq] at h1
          refine ⟨by omega, by omega, fun x hx => ?_, by simpa using h3, h4⟩
          have := List.all_eq_true.1 h2 x hx
          simp only [fit, Bool.and_eq_true, decide_eq_true_eq] at this
          exact this

def rulesV (rs : List Ru) : List V := rs.flatMap Ru.cells
theorem rulesV_len {rs : List Ru} : (rulesV rs).length = rs.length * 7 := by
  induction rs with
  | nil => rfl
  | cons r rs ih => simp only [rulesV, List.flatMap_cons, List.length_append, List.length_cons] at ih ⊢; rw [ih]; simp [Ru.cells]; omega
theorem rulesV_drop {rs : List Ru} : ∀ {i : Nat}, (rulesV rs).drop (i * 7) = rulesV (rs.drop i) := by
  induction rs with
  | nil => intro i; simp [rulesV]
  | cons r rs ih =>
    intro i
    cases i with
    | zero => simp
    | succ i =>
      rw [show (i + 1) * 7 = 7 + i * 7 by omega, ← List.drop_drop]
      have : (rulesV (r :: rs)).drop 7 = rulesV rs := by simp [rulesV, Ru.cells]
      rw [this, ih]
      rfl
theorem rulesV_get {rs : List Ru} {i : Nat} {r : Ru} (h : rs[i]? = some r) : ((rulesV rs).drop (i * 7)).take 7 = r.cells := by
  rw [rulesV_drop]
  have hlt := (List.getElem?_eq_some_iff.1 h).1
  have : rs.drop i = r :: rs.drop (i + 1) := by
    rw [List.drop_eq_getElem_cons hlt]
    rw [List.getElem?_eq_getElem hlt] at h
    rw [Option.some.inj h]
  rw [this]
  simp [rulesV, Ru.cells]
@[simp] theorem pure_rules {rs : List Ru} : pureL (rulesV rs) = true := by
  rw [pureL_all]
  intro v hv
  simp only [rulesV, List.mem_flatMap] at hv
  obtain ⟨r, -, hv⟩ := hv
  simp [Ru.cells] at hv
  rcases hv with rfl | rfl | rfl | rfl | rfl | rfl | rfl <;> rfl
@[simp] theorem len_cells {r : Ru} : r.cells.length = 7 := rfl
@[simp] theorem pure_cells {r : Ru} : pureL r.cells = true := rfl

def openE (t b : List Int) (rs : List Ru) : Int := if checkStem t b = 0 then (if rs.all Ru.ok then 0 else 3) else checkStem t b
def openV (t : List Int) (ft : Bool) (b : List Int) (fb : Bool) (rs : List Ru) : V := if openE t b rs = 0 then yardV t ft b fb (knownK t b (rs.getD 0 ⟨0, 0, 0, 0, 0, 0, 0⟩)) else .np

def inv50 (t : List Int) (ft : Bool) (b : List Int) (fb : Bool) (rs : List Ru) (m : Nat) (env : Env) (σ : List O) : Prop :=
  ∃ i : Nat, i + m = rs.length ∧ (rs.take i).all Ru.ok = true ∧ env = [(1, .ss (rulesV rs) rs.length true), (2, .p 0 0 0), (15, .ss (rulesV rs) rs.length true), (16, .i .i64 rs.length), (17, .i .i64 i)] ∧ σ = [.row 0 [sl t ft, sl b fb]]

theorem open_ok {t b : List Int} {ft fb : Bool} {rs : List Ru} (hsz : Sz t b) (hne : rs ≠ []) (hl : rs.length ≤ 10) :
    FSpec Try.prog 50 [.agg [sl t ft, sl b fb], .ss (rulesV rs) rs.length true] [] (.tup [openV t ft b fb rs, .i .i64 (openE t b rs)]) [] := by
  refine fn50.spec0 mixed noIt_ok ?_
  rw [ic50]
  refine ab_seq_k fun K1 h1 => ?_
  simp
  refine h1 _ _ _ ?_
  clear h1 K1
  refine ab_seq_k fun K2 h2 => ?_
  refine ab_seq_k fun K3 h3 => ?_
  simp
  refine callK_of (FSpec.frame (checkStem_ok hsz.t1 hsz.b1) (by simp) rfl) ?_
  simp
  refine h3 _ _ _ ?_
  clear h3 K3
  refine ab_seq_k fun K4 h4 => ?_
  simp
  refine h4 _ _ _ ?_
  clear h4 K4
  refine ab_cond_of rfl (fun hc => ?_) (fun hc => ?_)
  · refine ab_seq_k fun K5 h5 => ?_
    simp
    refine h5 _ _ _ ?_
    simp
    simp at hc
    exact fin_of 1 (by simp [rs50, openV, openE, hc])
  · simp at hc
    obtain ⟨s1, s2, s3, s4, s5⟩ := stem_ok hc
    simp
    refine h2 _ _ _ ?_
    refine ab_seq_k fun K6 h6 => ?_
    refine ab_seq_k fun K7 h7 => ?_
    simp
    refine h7 _ _ _ ?_
    clear h7 K7
    refine ab_block_k fun K8 h8 => ?_
    refine ab_loop_k (inv50 t ft b fb rs) rs.length ⟨0, by omega, by simp, by simp, rfl⟩ ?_
    rintro m env σ ⟨i, hi, hall, rfl, rfl⟩ K9 h9
    rw [ic50_0]
    refine ab_seq_k fun K10 h10 => ?_
    simp
    refine h10 _ _ _ ?_
    clear h10 K10
    refine ab_seq_k fun K11 h11 => ?_
    refine ab_cond_of rfl (fun hc2 => ?_) (fun hc2 => ?_)
    · have hlt : i < rs.length := by simp at hc2; omega
      have hg : rs[i]? = some rs[i] := List.getElem?_eq_getElem hlt
      have htake : rs.take (i + 1) = rs.take i ++ [rs[i]] := by rw [List.take_add_one, hg]; rfl
      have hmem : rs[i] ∈ rs := List.getElem_mem hlt
      generalize rs[i] = r at *
      have hs := rulesV_get hg
      have hlen := rulesV_len (rs := rs)
      have hlt2 : i * 7 + 7 ≤ rs.length * 7 := by omega
      simp
      refine h11 _ _ _ ?_
      refine ab_seq_k fun K12 h12 => ?_
      refine ab_block_k fun K13 h13 => ?_
      refine ab_seq_k fun K14 h14 => ?_
      simp [hlt, hs, hlen, hlt2]
      refine h14 _ _ _ ?_
      clear h14 K14
      refine ab_seq_k fun K15 h15 => ?_
      have h7 : List.take 7 r.cells = r.cells := rfl
      have h7' : List.drop 7 (List.replicate 7 (V.i .i64 0)) = [] := rfl
      simp [h7]
      refine callK_of (FSpec.frame (checkRule_ok (r := r)) (by simp) rfl) ?_
      simp
      refine h15 _ _ _ ?_
      clear h15 K15
      refine ab_seq_k fun K16 h16 => ?_
      simp
      refine h16 _ _ _ ?_
      clear h16 K16
      refine ab_cond_of rfl (fun hc3 => ?_) (fun hc3 => ?_)
      · have hr : r.ok = false := by
          cases h : r.ok
          · rfl
          · simp [Ru.check, h] at hc3
        have hra : rs.all Ru.ok = false := by rw [List.all_eq_false]; exact ⟨r, hmem, by simp [hr]⟩
        refine ab_seq_k fun K17 h17 => ?_
        simp
        refine h17 _ _ _ ?_
        simp
        exact fin_of 1 (by simp [rs50, openV, openE, hc, hra, Ru.check, hr])
      · have hr : r.ok = true := by
          cases h : r.ok
          · simp [Ru.check, h] at hc3
          · rfl
        simp
        refine h13 _ _ _ ?_
        refine h12 _ _ _ ?_
        simp [wrap64 (x := (i : Int) + 1) (by omega) (by omega)]
        refine h9 _ _ _ (againF (m - 1) 2 1 (by omega) (by omega) (by simp) ⟨i + 1, by omega, ?_, ?_, ?_⟩)
        · rw [htake, List.all_append, hall]; simp [hr]
        · simp
        · simp [frzS]
    · have hlt : i = rs.length := by simp at hc2; omega
      subst hlt
      have hra : rs.all Ru.ok = true := by simpa using hall
      simp
      refine h8 _ _ _ ?_
      refine h6 _ _ _ ?_
      refine ab_seq_k fun K18 h18 => ?_
      obtain ⟨r, os, rfl⟩ : ∃ r os, rs = r :: os := by
        cases rs with
        | nil => exact absurd rfl hne
        | cons r os => exact ⟨r, os, rfl⟩
      have hr : r.ok = true := by simp at hra; exact hra.1
      have hs : List.take 7 (rulesV (r :: os)) = r.cells := by have := rulesV_get (rs := r :: os) (i := 0) rfl; simpa using this
      have hlen := rulesV_len (rs := r :: os)
      simp [hs, hlen]
      refine ⟨by omega, callK_of (FSpec.frame (newYard_ok (t := t) (b := b) (ft := ft) (fb := fb) (r := r) s1 s2 s3 hsz.b1 (Ru.bounds hr)) (by simp) (by simp)) ?_⟩
      simp
      refine h18 _ _ _ ?_
      simp
      have he : openE t b (r :: os) = 0 := by simp only [openE, hc, hra, if_true]
      refine fin_of 3 ?_
      simp only [openV, he, if_true]
      simp [rs50]

theorem isLog_ok {t b : List Int} {ft fb : Bool} {kn : Kn} {x y : Int} (ht : (t.length : Int) < 1000000000) : FSpec Try.prog 51 [yardV t ft b fb kn, .agg [.i .i64 x, .i .i64 y]] [] (.b (isLog t.length x y)) [] := by
  refine fn51.spec0 mixed noIt_ok ?_
  rw [ic51]
  refine ab_seq_k fun K1 h1 => ?_
  simp
  refine h1 _ _ _ ?_
  clear h1 K1
  refine ab_seq_k fun K2 h2 => ?_
  have c1 : ∀ {env σ v}, v = isLog t.length x y → get env 4 = .b v → K2 (some 0) env σ := by
    intro env σ v hv e1
    refine h2 _ _ _ ?_
    simp
    exact fin_of 1 (by simp [rs51, e1, hv])
  by_cases e1 : x < y
  · simp [e1]
    refine callK_of (FSpec.frame (long_ok (cells := [sl t ft, sl b fb, knownV kn]) (off := 0) (t := ints t) (n := t.length) (full := ft) rfl ht) (by simp) rfl) ?_
    simp
    refine callK_of (FSpec.frame (within (l := [x, y]) (full := true) (lo := 0) (hi := (t.length : Int) - 1) (by simp)) (by simp) rfl) ?_
    simp
    refine c1 ?_ rfl
    rw [Bool.eq_iff_iff]
    simp [isLog, e1]
    omega
  · simp [e1]
    exact c1 (v := false) (by simp [isLog, e1]) rfl
end Go.Ab
end

section
/- What a yard knows of a log is what it scales (plain). -/
set_option linter.unusedVariables false
set_option linter.unusedSimpArgs false
set_option maxHeartbeats 4000000
namespace Go.Ab
open Go Go.Proofs

theorem find_key {kn : Kn} (hn : (kn.map (·.1)).Nodup) {k : Int × Int} {v : Int} (h : (k, v) ∈ kn) : kn.find? (fun e => e.1 == k) = some (k, v) := by
  cases hf : kn.find? (fun e => e.1 == k) with
  | none =>
    rw [List.find?_eq_none] at hf
    exact absurd (by simp) (hf _ h)
  | some e =>
    have h1 := List.mem_of_find?_eq_some hf
    have h2 := List.find?_some hf
    simp only [beq_iff_eq] at h2
    rw [nodup_inj hn h1 h h2]

theorem knownK_nodup {t b : List Int} {r : Ru} : ((knownK t b r).map (·.1)).Nodup := (allK_nodup (t := t) (r := r)).sublist ((List.filter_sublist).map _)

theorem allK_of {t : List Int} {r : Ru} (hr : RuB r) {x y : Int} (hx : 0 ≤ x) (hy : y < t.length) (h1 : r.least ≤ y - x - r.trim) (h2 : y - x - r.trim ≤ r.most) (h3 : (y - x - r.trim) % r.step = 0) :
    ((x, y), scaleN t r y (y - x - r.trim)) ∈ allK t r (t.length - 1) := by
  have a1 := hr.l1
  have a2 := hr.t1
  simp only [allK, List.mem_flatMap, List.mem_range]
  refine ⟨x.toNat, by omega, ?_⟩
  simp only [rowK, List.mem_flatMap, List.mem_range]
  refine ⟨(y - x - r.trim - r.least).toNat, by unfold cntK; omega, ?_⟩
  have e1 : (x.toNat : Int) = x := by omega
  have e2 : r.least + ((y - x - r.trim - r.least).toNat : Int) = y - x - r.trim := by omega
  rw [e1, e2]
  have e3 : x + (y - x - r.trim) + r.trim = y := by omega
  simp only [ent1, e3]
  rw [if_pos ⟨by omega, h3⟩]
  simp

theorem allK_inv {t : List Int} {r : Ru} {k : Nat} {x y v : Int} (h : ((x, y), v) ∈ allK t r k) (hr : RuB r) :
    r.least ≤ y - x - r.trim ∧ y - x - r.trim ≤ r.most ∧ (y - x - r.trim) % r.step = 0 ∧ v = scaleN t r y (y - x - r.trim) ∧ 0 ≤ x ∧ x < y ∧ y ≤ (t.length : Int) - 1 := by
  have a1 := hr.l1
  have a2 := hr.t1
  obtain ⟨i, hi, h⟩ := allK_mem h
  obtain ⟨j, hj, h⟩ := rowK_mem h
  obtain ⟨h1, h2, h3⟩ := ent1_mem h
  simp only [Prod.mk.injEq] at h1
  obtain ⟨⟨rfl, rfl⟩, rfl⟩ := h1
  have e : (i : Int) + (r.least + j) + r.trim - i - r.trim = r.least + j := by omega
  rw [e]
  unfold cntK at hj
  exact ⟨by omega, by omega, h3, rfl, by omega, by omega, h2⟩

theorem look_known {t b : List Int} {r : Ru} (hr : RuB r) {x y : Int} (hx : 0 ≤ x) (hxy : x < y) (hy : y < t.length) : look (knownK t b r) (x, y) = scaleP t b r x y := by
  have a1 := hr.l1
  have a2 := hr.t1
  have a3 := hr.s1
  by_cases hin : ∃ v, ((x, y), v) ∈ knownK t b r
  · obtain ⟨v, hv⟩ := hin
    simp only [look, find_key knownK_nodup hv, Option.map_some, Option.getD_some]
    simp only [knownK, List.mem_filter] at hv
    obtain ⟨hv, hbad⟩ := hv
    obtain ⟨h1, h2, h3, h4, -⟩ := allK_inv hv hr
    simp only [badK, Bool.not_eq_true', Bool.or_eq_false_iff, decide_eq_false_iff_not] at hbad
    obtain ⟨⟨b1, b2⟩, b3⟩ := hbad
    simp only [scaleP, b3, Bool.false_eq_true, if_false]
    rw [if_neg]
    · exact h4
    · rintro (h | h | h | h)
      · omega
      · omega
      · exact h (by rw [Int.tmod_eq_emod_of_nonneg (by omega)]; exact h3)
      · exact b2 h
  · have hnone : (knownK t b r).find? (fun e => e.1 == (x, y)) = none := by
      rw [List.find?_eq_none]
      rintro ⟨k, v⟩ he hk
      simp only [beq_iff_eq] at hk
      subst hk
      exact hin ⟨v, he⟩
    simp only [look, hnone, Option.map_none, Option.getD_none]
    unfold scaleP
    split
    · rfl
    · rename_i hb
      split
      · rfl
      · rename_i hc
        by_cases hz : scaleN t r y (y - x - r.trim) = 0
        · exact hz.symm
        · exfalso
          have c1 : ¬ (y - x - r.trim < r.least) := fun h => hc (.inl h)
          have c2 : ¬ (r.most < y - x - r.trim) := fun h => hc (.inr (.inl h))
          have c3 : (y - x - r.trim).tmod r.step = 0 := Classical.byContradiction fun h => hc (.inr (.inr (.inl h)))
          have c4 : ¬ t.getD y.toNat 0 < r.thin := fun h => hc (.inr (.inr (.inr h)))
          rw [Int.tmod_eq_emod_of_nonneg (by omega)] at c3
          refine hin ⟨scaleN t r y (y - x - r.trim), ?_⟩
          simp only [knownK, List.mem_filter]
          refine ⟨allK_of hr hx hy (by omega) (by omega) c3, ?_⟩
          simp only [badK, Bool.not_eq_true', Bool.or_eq_false_iff, decide_eq_false_iff_not]
          exact ⟨⟨hz, c4⟩, by simpa using hb⟩
end Go.Ab
end

section
/- Feet, of the program and of the reference: both are the same plain function. -/
set_option linter.unusedVariables false
set_option linter.unusedSimpArgs false
set_option maxHeartbeats 4000000
namespace Go.Ab
open Go Go.Proofs

theorem openE_one {t b : List Int} {r : Ru} : (if checkStem t b = 0 then r.check else checkStem t b) = openE t b [r] := by simp [openE, Ru.check]
theorem openE_stem {t b : List Int} {rs : List Ru} (h : openE t b rs = 0) : checkStem t b = 0 ∧ rs.all Ru.ok = true := by
  unfold openE at h
  split at h
  · rename_i h1
    split at h
    · rename_i h2; exact ⟨h1, h2⟩
    · cases h
  · rename_i h1; exact absurd h h1

theorem scaleP_nonneg {t b : List Int} {r : Ru} {x y : Int} (hr : RuB r) : 0 ≤ scaleP t b r x y := by
  have := hr.l1
  have := hr.d1
  unfold scaleP
  split
  · omega
  · split
    · omega
    · rename_i h
      refine Int.ediv_nonneg (Int.mul_nonneg (Int.mul_nonneg (by omega) (by omega)) ?_) (by omega)
      have : ¬ (y - x - r.trim < r.least) := fun h' => h (.inl h')
      omega

def feetP (t b : List Int) (r : Ru) (x y : Int) : Int × Int :=
  if openE t b [r] ≠ 0 then (0, openE t b [r]) else if isLog t.length x y = false then (0, 2) else if scaleP t b r x y = 0 then (0, 18) else (scaleP t b r x y, 0)
def pairV (p : Int × Int) : V := .tup [.i .i64 p.1, .i .i64 p.2]

theorem isLog_iff {n : Nat} {x y : Int} : isLog n x y = true ↔ 0 ≤ x ∧ x < y ∧ y < n := by
  simp only [isLog, Bool.and_eq_true, decide_eq_true_eq]
  omega

theorem feet_ok {t b : List Int} {ft fb : Bool} {r : Ru} {x y : Int} (hsz : Sz t b) :
    FSpec Try.prog 18 [.agg [sl t ft, sl b fb], .agg r.cells, .agg [.i .i64 x, .i .i64 y]] [] (pairV (feetP t b r x y)) [] := by
  refine fn18.spec0 mixed noIt_ok ?_
  rw [ic18]
  refine ab_seq_k fun K1 h1 => ?_
  simp
  refine h1 _ _ _ ?_
  clear h1 K1
  refine ab_seq_k fun K2 h2 => ?_
  have h7 : List.take 7 r.cells = r.cells := rfl
  have hrv : r.cells = rulesV [r] := by simp [rulesV]
  simp [h7]
  refine callK_of (FSpec.frame (args := [.agg [sl t ft, sl b fb], .ss r.cells 1 true]) (by rw [hrv]; exact open_ok (rs := [r]) hsz (by simp) (by simp)) (by simp) ?_) ?_
  · simp [openV]; split <;> simp
  simp
  refine h2 _ _ _ ?_
  clear h2 K2
  refine ab_seq_k fun K3 h3 => ?_
  refine ab_block_k fun K4 h4 => ?_
  refine ab_seq_k fun K5 h5 => ?_
  simp
  refine h5 _ _ _ ?_
  clear h5 K5
  refine ab_cond_of rfl (fun hc => ?_) (fun hc => ?_)
  · simp at hc
    refine ab_seq_k fun K6 h6 => ?_
    simp
    refine h6 _ _ _ ?_
    simp
    exact fin_of 1 (by simp [rs18, feetP, hc, pairV])
  · simp at hc
    obtain ⟨hs, hok⟩ := openE_stem hc
    obtain ⟨s1, s2, s3, s4, s5⟩ := stem_ok hs
    have hrok : r.ok = true := by simpa using hok
    have hr := Ru.bounds hrok
    have hov : openV t ft b fb [r] = yardV t ft b fb (knownK t b r) := by simp [openV, hc]
    simp only [hov]
    refine ab_seq_k fun K7 h7 => ?_
    simp
    refine callK_of (FSpec.frame (isLog_ok (t := t) (b := b) (ft := ft) (fb := fb) (kn := knownK t b r) (x := x) (y := y) hsz.t1) (by simp) rfl) ?_
    simp
    refine h7 _ _ _ ?_
    clear h7 K7
    refine ab_cond_of rfl (fun hc2 => ?_) (fun hc2 => ?_)
    · simp at hc2
      refine ab_seq_k fun K8 h8 => ?_
      simp
      refine h8 _ _ _ ?_
      simp
      exact fin_of 1 (by simp [rs18, feetP, hc, hc2, pairV])
    · simp at hc2
      obtain ⟨x1, x2, x3⟩ := isLog_iff.1 hc2
      have hlk := look_known (t := t) (b := b) hr x1 x2 x3
      simp
      refine h4 _ _ _ ?_
      refine h3 _ _ _ ?_
      clear h3 h4
      refine ab_seq_k fun K9 h9 => ?_
      simp
      refine callK_of (FSpec.frame (scale_ok (t := t) (ft := ft) (b := b) (fb := fb) (kn := knownK t b r) (x := x) (y := y)) (by simp) rfl) ?_
      rw [hlk]
      simp
      refine h9 _ _ _ ?_
      clear h9 K9
      refine ab_seq_k fun K10 h10 => ?_
      refine ab_seq_k fun K11 h11 => ?_
      simp
      refine h11 _ _ _ ?_
      refine ab_cond_of rfl (fun hc3 => ?_) (fun hc3 => ?_)
      · simp at hc3
        refine ab_seq_k fun K8 h8 => ?_
        simp
        refine h8 _ _ _ ?_
        simp
        exact fin_of 1 (by simp [rs18, feetP, hc, hc2, hc3, pairV])
      · simp at hc3
        simp
        refine h10 _ _ _ ?_
        refine ab_seq_k fun K12 h12 => ?_
        simp
        refine h12 _ _ _ ?_
        simp
        exact fin_of 1 (by simp [rs18, feetP, hc, hc2, hc3, pairV])

theorem refFeet {t b : List Int} {ft fb : Bool} {r : Ru} {x y : Int} (hsz : Sz t b) :
    FSpec Try.prog 19 [.agg [sl t ft, sl b fb], .agg r.cells, .agg [.i .i64 x, .i .i64 y]] [] (pairV (feetP t b r x y)) [] := by
  refine fn19.spec0 mixed noIt_ok ?_
  rw [ic19]
  have hchk := refCheck (t := t) (b := b) (ft := ft) (fb := fb) (r := r) hsz.t1 hsz.b1 hsz.bb
  rw [openE_one] at hchk
  have h7 : List.take 7 r.cells = r.cells := rfl
  refine ab_seq_k fun K1 h1 => ?_
  simp
  refine h1 _ _ _ ?_
  clear h1 K1
  refine ab_seq_k fun K2 h2 => ?_
  refine ab_seq_k fun K3 h3 => ?_
  simp [h7]
  refine callK_of (FSpec.frame hchk (by simp) rfl) ?_
  simp
  refine h3 _ _ _ ?_
  clear h3 K3
  refine ab_cond_of rfl (fun hc => ?_) (fun hc => ?_)
  · simp at hc
    refine ab_seq_k fun K4 h4 => ?_
    simp [h7]
    refine callK_of (FSpec.frame hchk (by simp) rfl) ?_
    simp
    refine h4 _ _ _ ?_
    simp
    exact fin_of 1 (by simp [rs19, feetP, hc, pairV])
  · simp at hc
    obtain ⟨hs, hok⟩ := openE_stem hc
    obtain ⟨s1, s2, s3, s4, s5⟩ := stem_ok hs
    have hrok : r.ok = true := by simpa using hok
    have hr := Ru.bounds hrok
    have hnn := scaleP_nonneg (t := t) (b := b) (x := x) (y := y) hr
    simp
    refine h2 _ _ _ ?_
    clear h2
    refine ab_seq_k fun K5 h5 => ?_
    refine ab_seq_k fun K6 h6 => ?_
    simp
    refine callK_of (FSpec.frame (refIsLog (t := t) (b := b) (ft := ft) (fb := fb) (x := x) (y := y) hsz.t1) (by simp) rfl) ?_
    simp
    refine h6 _ _ _ ?_
    clear h6 K6
    refine ab_cond_of rfl (fun hc2 => ?_) (fun hc2 => ?_)
    · simp at hc2
      refine ab_seq_k fun K7 h7' => ?_
      simp
      refine h7' _ _ _ ?_
      simp
      exact fin_of 1 (by simp [rs19, feetP, hc, hc2, pairV])
    · simp at hc2
      obtain ⟨x1, x2, x3⟩ := isLog_iff.1 hc2
      simp
      refine h5 _ _ _ ?_
      clear h5
      refine ab_seq_k fun K8 h8 => ?_
      simp [h7]
      refine callK_of (FSpec.frame (refScale (t := t) (b := b) (ft := ft) (fb := fb) (r := r) s2 s3 hsz.b1 hr x1 x2 x3) (by simp) rfl) ?_
      simp
      refine h8 _ _ _ ?_
      clear h8 K8
      refine ab_seq_k fun K9 h9 => ?_
      refine ab_seq_k fun K10 h10 => ?_
      simp
      refine h10 _ _ _ ?_
      refine ab_cond_of rfl (fun hc3 => ?_) (fun hc3 => ?_)
      · have hc3 : scaleP t b r x y = 0 := by simp at hc3; omega
        refine ab_seq_k fun K11 h11 => ?_
        simp
        refine h11 _ _ _ ?_
        simp
        exact fin_of 1 (by simp [rs19, feetP, hc, hc2, hc3, pairV])
      · have hc3 : scaleP t b r x y ≠ 0 := by simp at hc3; omega
        simp
        refine h9 _ _ _ ?_
        refine ab_seq_k fun K12 h12 => ?_
        simp
        refine h12 _ _ _ ?_
        simp
        exact fin_of 1 (by simp [rs19, feetP, hc, hc2, hc3, pairV])

theorem great_ok {t b : List Int} {ft fb : Bool} {n m : Nat} {ts bs : List V} (hn : (n : Int) < 9223372036854775808) (hm : (m : Int) < 9223372036854775808) : FSpec Try.prog 16 [.agg [.ss ts n ft, .ss bs m fb]] [] (.b (decide (70 < n) || decide (70 < m))) [] := by
  refine fn16.spec0 mixed noIt_ok ?_
  rw [ic16]
  refine ab_seq_k fun K1 h1 => ?_
  simp
  refine h1 _ _ _ ?_
  clear h1 K1
  refine ab_seq_k fun K2 h2 => ?_
  have c1 : ∀ {env σ v}, v = (decide (70 < n) || decide (70 < m)) → get env 2 = .b v → K2 (some 0) env σ := by
    intro env σ v hv e1
    refine h2 _ _ _ ?_
    simp
    exact fin_of 1 (by simp [rs16, e1, hv])
  by_cases e1 : (70 : Int) < n
  · simp [e1]
    exact c1 (v := true) (by simp; omega) rfl
  · simp [e1]
    exact c1 (v := decide ((70 : Int) < m)) (by rw [Bool.eq_iff_iff]; simp; omega) rfl
end Go.Ab
end

section
/- The law ScaleStems: it returns true. -/
set_option linter.unusedVariables false
set_option linter.unusedSimpArgs false
set_option maxHeartbeats 4000000
namespace Go.Ab
open Go Go.Proofs

theorem works0 {σ : List O} : FSpec Try.prog 17 [] σ (.b true) σ := FSpec.frame works_ok rfl rfl

theorem scaleStems {t b : List Int} {ft fb : Bool} {r : Ru} {x y : Int} (ht : (t.length : Int) < 9223372036854775808) (hb : (b.length : Int) < 9223372036854775808) (hbb : ∀ x ∈ b, -9223372036854775808 ≤ x ∧ x < 9223372036854775808) :
    FSpec Try.prog 3 [.agg [sl t ft, sl b fb], .agg r.cells, .agg [.i .i64 x, .i .i64 y]] [] (.b true) [] := by
  refine fn3.spec0 mixed noIt_ok ?_
  rw [ic3]
  have h7 : List.take 7 r.cells = r.cells := rfl
  refine ab_seq_k fun K1 h1 => ?_
  simp
  refine h1 _ _ _ ?_
  clear h1 K1
  refine ab_seq_k fun K2 h2 => ?_
  refine ab_seq_k fun K3 h3 => ?_
  simp
  refine callK_of (FSpec.frame (great_ok (t := t) (b := b) ht hb) (by simp) rfl) ?_
  simp
  refine h3 _ _ _ ?_
  clear h3 K3
  refine ab_cond_of rfl (fun hc => ?_) (fun hc => ?_)
  · refine ab_seq_k fun K4 h4 => ?_
    simp
    refine callK_of works0 ?_
    simp
    refine h4 _ _ _ ?_
    simp
    exact fin_of 1 (by simp [rs3])
  · simp at hc
    have hsz : Sz t b := ⟨by omega, by omega, hbb⟩
    simp
    refine h2 _ _ _ ?_
    clear h2
    refine ab_seq_k fun K5 h5 => ?_
    simp [h7]
    refine callK_of (FSpec.frame (feet_ok (ft := ft) (fb := fb) (r := r) (x := x) (y := y) hsz) (by simp) (by simp [pairV])) ?_
    simp [pairV]
    refine h5 _ _ _ ?_
    clear h5 K5
    refine ab_seq_k fun K6 h6 => ?_
    simp [h7]
    refine callK_of (FSpec.frame (refFeet (ft := ft) (fb := fb) (r := r) (x := x) (y := y) hsz) (by simp) (by simp [pairV])) ?_
    simp [pairV]
    refine h6 _ _ _ ?_
    clear h6 K6
    refine ab_seq_k fun K7 h7' => ?_
    simp
    refine callK_of (FSpec.frame (checkStem_ok hsz.t1 hsz.b1) (by simp) rfl) ?_
    simp
    refine callK_of (FSpec.frame (refStem hsz.t1 hsz.b1 hsz.bb) (by simp) rfl) ?_
    simp [h7]
    refine callK_of (FSpec.frame (checkRule_ok (r := r)) (by simp) rfl) ?_
    simp [h7]
    refine callK_of (FSpec.frame (refRule (r := r)) (by simp) rfl) ?_
    simp
    refine callK_of works0 ?_
    simp
    refine h7' _ _ _ ?_
    simp
    exact fin_of 1 (by simp [rs3])
end Go.Ab
end
