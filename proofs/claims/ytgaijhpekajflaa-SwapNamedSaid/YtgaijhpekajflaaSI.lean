/- Ledgers: small functions, and the sets that are yielded. -/
import Derived.Test.YtgaijhpekajflaaSH
set_option linter.unusedVariables false
set_option linter.unusedSimpArgs false
set_option maxHeartbeats 4000000
set_option maxRecDepth 100000
namespace Go.Ab
open Go Go.Proofs

def ledC (n : Int) (D : List Db) (f : Bool) (F : Nat → Int) (ev prs : V) : List V := .i .i64 n :: slD D f :: (ints (rowF 10 F) ++ [ev, prs])
@[simp] theorem ledC_len {n D f F ev prs} : (ledC n D f F ev prs).length = 14 := by simp [ledC]
theorem ledC_0 {n D f F ev prs} : (ledC n D f F ev prs)[0]? = some (.i .i64 n) := rfl
theorem ledC_1 {n D f F ev prs} : (ledC n D f F ev prs)[1]? = some (slD D f) := rfl
theorem ledC_2 {n D f F ev prs} {i : Nat} (h : i < 10) : (ledC n D f F ev prs)[2 + i]? = some (.i .i64 (F i)) := by
  rw [ledC, show 2 + i = i + 1 + 1 by omega, List.getElem?_cons_succ, List.getElem?_cons_succ, List.getElem?_append_left (by simpa using h), get_ints, rowF_get h]
  rfl
theorem ledC_12 {n D f F ev prs} : (ledC n D f F ev prs)[12]? = some ev := rfl
theorem ledC_13 {n D f F ev prs} : (ledC n D f F ev prs)[13]? = some prs := rfl
@[simp] theorem ledC_g0 {n D f F ev prs} {h : 0 < (ledC n D f F ev prs).length} : (ledC n D f F ev prs)[0] = .i .i64 n := rfl
@[simp] theorem ledC_g12 {n D f F ev prs} {h : 12 < (ledC n D f F ev prs).length} : (ledC n D f F ev prs)[12] = ev := rfl
@[simp] theorem ledC_g13 {n D f F ev prs} {h : 13 < (ledC n D f F ev prs).length} : (ledC n D f F ev prs)[13] = prs := rfl
theorem ledC_g2 {n D f F ev prs} {i : Nat} (hi : i < 10) {h : 2 + i < (ledC n D f F ev prs).length} : (ledC n D f F ev prs)[2 + i] = .i .i64 (F i) := by
  have := ledC_2 (n := n) (D := D) (f := f) (F := F) (ev := ev) (prs := prs) hi
  exact (List.getElem?_eq_some_iff.1 this).2
theorem ledC_set13 {n D f F ev prs v} : (ledC n D f F ev prs).set 13 v = ledC n D f F ev v := rfl
theorem ledC_bal {n D f F ev prs} : List.take 10 (List.drop 2 (ledC n D f F ev prs)) = ints (rowF 10 F) := by
  show List.take 10 (ints (rowF 10 F) ++ [ev, prs]) = _
  rw [List.take_append_of_le_length (by simp), List.take_of_length_le (by simp)]
theorem pure_ledC {n D f F ev prs} (h1 : ev.pure = true) (h2 : prs.pure = true) : pureL (ledC n D f F ev prs) = true := by
  rw [pureL_all]
  intro x hx
  simp only [ledC, List.mem_cons, List.mem_append, List.mem_singleton, List.not_mem_nil, or_false] at hx
  rcases hx with rfl | rfl | hx | rfl | rfl
  · rfl
  · simp
  · exact pureL_all.1 pure_ints x hx
  · exact h1
  · exact h2
theorem ledC_map {n D f F ev prs} {k m : Nat} {σ : List O} : (ledC n D f F ev prs).map (frz (k + 1) m σ) = ledC n D f F (frz (k + 1) m σ ev) (frz (k + 1) m σ prs) := by
  unfold ledC
  rw [List.map_cons, List.map_cons, List.map_append, map_frz pure_ints, frz_pure rfl, frz_pure (by simp)]
  rfl
theorem frz_led {n D f F ev prs} {k id : Nat} {σ : List O} (h : σ[id]? = some (.row 0 (ledC n D f F ev prs))) : frz (k + 2) 0 σ (.p id 0 0) = .sp (ledC n D f F (frz (k + 1) 0 σ ev) (frz (k + 1) 0 σ prs)) 0 := by
  rw [frz]
  simp only [V.pure, Bool.false_eq_true, if_false, Nat.not_lt_zero, h, if_true]
  rw [ledC_map]
theorem frz_mp {k n id c : Nat} {σ : List O} {E : List Ent} (h : σ[id]? = some (.map (mpV E) c)) (hn : n ≤ id) (hp : ∀ e ∈ E, e.2.2.pure = true) : frz (k + 2) n σ (.m id) = .sm ((mpV E).map (·.2)) := by
  rw [frz]
  simp only [V.pure, Bool.false_eq_true, if_false, Nat.not_lt.2 hn, h]
  congr 1
  refine List.map_congr_left (fun e he => ?_)
  unfold mpV at he
  obtain ⟨x, hx, rfl⟩ := List.mem_map.1 he
  show (frz (k + 1) n σ (kV x.2.1), frz (k + 1) n σ x.2.2) = (kV x.2.1, x.2.2)
  rw [frz_pure (hp x hx), frz_pure (by
    show pureL (x.2.1.map (V.i .i64)) = true
    exact pure_ints (l := x.2.1))]

theorem all63 {N W : Nat} {D f F ev prs} {σ : List O} (hN : N ≤ 10) (hW : 2 ^ N = W) : FSpec Try.prog 63 [.sp (ledC N D f F ev prs) 0] σ (.i .i64 ((W : Int) - 1)) σ := by
  refine fn63.specL mixed noIt_ok (fun hlt => ?_)
  rw [ic63]
  have hp := pow_small hN
  have e1 := shl_nat (m := N) (by omega)
  have e2 := shl_nat' (m := N) (by omega)
  rw [hW] at hp e1 e2
  refine ab_seq_k fun K1 h1 => ?_
  simp
  refine h1 _ _ _ ?_
  clear h1 K1
  refine ab_seq_k fun K2 h2 => ?_
  simp [ledC_0, e1, e2]
  rw [wrap64 (by omega) (by omega)]
  refine h2 _ _ _ ?_
  simp
  refine fin_all ?_
  simp [rs63]
theorem all63m {N W id : Nat} {D f F ev prs} {σ : List O} (hN : N ≤ 10) (hW : 2 ^ N = W) (h : σ[id]? = some (.row 0 (ledC N D f F ev prs))) : FSpec Try.prog 63 [.p id 0 0] σ (.i .i64 ((W : Int) - 1)) σ := by
  refine FSpec.frozen 3 ?_ rfl
  simp only [List.map_cons, List.map_nil]
  rw [frz_led (k := 1) h]
  exact all63 hN hW
/-- Is a set even. -/
def evB (E : List Ent) (s : Nat) : Bool := (lk E [(s : Int)]).isSome
theorem even69 {n : Int} {D f F prs} {E : List Ent} {s : Nat} {σ : List O} (hE : ∀ e ∈ E, e.2.1.length = 1) (hp : prs.pure = true) : FSpec Try.prog 69 [.sp (ledC n D f F (.sm ((mpV E).map (·.2))) prs) 0, .i .i64 s] σ (.b (evB E s)) σ := by
  refine fn69.specL mixed noIt_ok (fun hlt => ?_)
  rw [ic69]
  refine ab_seq_k fun K1 h1 => ?_
  simp
  refine h1 _ _ _ ?_
  clear h1 K1
  refine ab_seq_k fun K2 h2 => ?_
  simp [ledC_12]
  refine lkpC_sm (n := 1) (k := [(s : Int)]) (by omega) hE ?_ rfl
  have fin : ∀ env, get env 6 = .b (evB E s) → K2 (some 0) env σ := by
    intro env w
    refine h2 _ _ _ ?_
    refine ab_seq_k fun K3 h3 => ?_
    simp [w]
    refine h3 _ _ _ ?_
    clear h3 K3
    simp
    refine fin_all ?_
    simp [rs69]
  cases h1 : lk E [(s : Int)] with
  | none => simp; exact fin _ (by simp [evB, h1])
  | some v => simp; exact fin _ (by simp [evB, h1])
theorem most62 {n : Int} {D f F ev fp} {P : List Int} {s : Nat} {σ : List O} (hs : s < P.length) : FSpec Try.prog 62 [.sp (ledC n D f F ev (sl P fp)) 0, .i .i64 s] σ (.i .i64 (P.getD s 0)) σ := by
  refine fn62.specL mixed noIt_ok (fun hlt => ?_)
  rw [ic62]
  obtain ⟨e1, e2, -⟩ := getD_get hs
  generalize P.getD s 0 = x at *
  refine ab_seq_k fun K1 h1 => ?_
  simp
  refine h1 _ _ _ ?_
  clear h1 K1
  refine ab_seq_k fun K2 h2 => ?_
  simp [ledC_13, hs, e1, e2]
  refine h2 _ _ _ ?_
  clear h2 K2
  simp
  refine fin_all ?_
  simp [rs62]
theorem sums90 {id : Nat} {σ : List O} : FSpec Try.prog 90 [.p id 0 0] σ (.f (.func 93) [] [.p σ.length 0 0]) (σ ++ [.row 0 [.p id 0 0]]) := by
  refine fn90.spec mixed noIt_ok ?_
  rw [ic90]
  refine ab_seq_k fun K1 h1 => ?_
  simp
  refine h1 _ _ _ ?_
  clear h1 K1
  refine ab_seq_k fun K2 h2 => ?_
  simp
  refine h2 _ _ _ ?_
  clear h2 K2
  simp
  refine fin_all ?_
  simp [rs90]

def ItS (P : Program) (f : FuncId) (first cap : List V) (N : Nat) (X : Nat → List V → List O → List O → Prop) (Pre : List O → Prop) : Prop :=
  (∃ fn, P.funcs[f]? = some fn ∧ fn.name ≠ "runtime.NumGoroutine" ∧ fn.body.isSome = true) ∧
    ∀ (Inv : Md → Cx → List Deferred → Prop) (Y : Yield) (J Dn : Nat → List O → Prop) (C : Cx) (σ : List O) (l : Nat) (cargs : List Value), InvOK σ.length Inv → YOK P Fence.wide Inv Y → R C σ → Inv none C [] → J 0 σ → (∀ i σ, J i σ → Pre σ) →
      VRl C (first ++ [V.f (.yield l) [] []] ++ cap) cargs →
      (∀ i x σ' g' (Kont : Md → V → List O → Prop), i < N → X i x σ' g' → J i σ' → (∀ σ'', J (i + 1) σ'' → Kont none (.b true) σ'') → (∀ j σ'', Dn j σ'' → Kont (some j) (.b false) σ'') → Y l x (σ' ++ g') Kont) →
      CallsIn Fence.wide 0 P f cargs.toArray C.w (fun e w' => ∃ C' cv md σ', C'.w = w' ∧ e = .returned cv ∧ R C' σ' ∧ Inv md C' [] ∧ (match md with | none => J N σ' | some j => Dn j σ'))
abbrev ItT : ItTy := ItS Try.prog
theorem itT_ok : ItOK Try.prog ItT := fun _ _ _ _ _ _ h => h
theorem LtAll.nil {σ : List O} (h : LtAll σ) : ∃ k0, ∀ k, k0 ≤ k → frzS k σ.length σ = σ := by
  obtain ⟨k0, hk0⟩ := h.cut
  exact ⟨k0, fun k hk => by have := hk0 k hk []; rwa [List.append_nil] at this⟩

def SumAt (N : Nat) (D : List Db) (f : Bool) (F : Nat → Int) (ic id : Nat) (σ : List O) : Prop :=
  σ[ic]? = some (.row 0 [.p id 0 0]) ∧ ∃ ev prs, σ[id]? = some (.row 0 (ledC N D f F ev prs))
def XS (N : Nat) (F : Nat → Int) (i : Nat) (x : List V) (σ g : List O) : Prop := x = [.i .i64 i, .i .i64 (sumF F i N)] ∧ g = []
theorem sums_it {N W : Nat} {D : List Db} {f : Bool} {F : Nat → Int} {ic id : Nat} (hN : N ≤ 10) (hW : 2 ^ N = W) (hF : ∀ i, -2000000000 ≤ F i ∧ F i ≤ 2000000000) :
    ItT 93 [] [.p ic 0 0] W (XS N F) (SumAt N D f F ic id) := by
  refine fn93.iter mixed (fun J Dn σ l hP hJ hL => ?_)
  generalize hn0 : σ.length = n0
  have hpw := pow_small hN
  rw [hW] at hpw
  obtain ⟨s0, ev, prs, s1⟩ := hP 0 σ hJ
  obtain ⟨hs0, s0'⟩ := List.getElem?_eq_some_iff.1 s0
  obtain ⟨hs1, s1'⟩ := List.getElem?_eq_some_iff.1 s1
  rw [ic93]
  refine ab_seq_k fun K1 h1 => ?_
  refine ab_seq_k fun K2 h2 => ?_
  have e : ∀ l, intsK .i64 (ints l) = some l := fun l => intsK_all
  have e0 : intsK .i64 (List.replicate 10 (V.i .i64 0)) = some (List.replicate 10 0) := by
    have := e (List.replicate 10 0)
    simp [ints] at this ⊢ <;> assumption
  simp [-List.reduceReplicate, s0, s0', s1, s1', ledC_bal, e, e0]
  refine h2 _ _ _ ?_
  clear h2 K2
  have hfin : ∀ env σ, J W σ → LtAll σ → n0 ≤ σ.length → finI n0 (J W) Dn none env σ := by
    intro env σ hJ hL hn
    obtain ⟨k1, hk1⟩ := hL.nil
    exact ⟨k1, σ.length, hn, Nat.le_refl _, by simp only; rw [hk1 _ (Nat.le_refl _)]; exact hJ⟩
  have hfin2 : ∀ env σ d, Dn d σ → LtAll σ → n0 ≤ σ.length → finI n0 (J W) Dn (some d) env σ := by
    intro env σ d hD hL hn
    obtain ⟨k1, hk1⟩ := hL.nil
    exact ⟨k1, σ.length, hn, Nat.le_refl _, by simp only; rw [hk1 _ (Nat.le_refl _)]; exact hD⟩
  by_cases hz : rowF 10 F = List.replicate 10 0
  · refine ab_cond_of rfl (fun _ => ?_) (fun h => absurd hz (of_decide_eq_false h))
    have hz2 : ∀ s, sumF F s N = 0 := fun s => sumF_zero (fun i hi => by rw [← rowF_zero] at hz; exact rowF_inj.1 hz i (by omega))
    refine ab_seq_k fun K3 h3 => ?_
    refine ab_seq_k fun K4 h4 => ?_
    simp [s0, s0']
    refine callK_of (all63m hN hW s1) ?_
    simp [wrap64 (x := (W : Int)) (by omega) (by omega)]
    refine h4 _ _ _ ?_
    clear h4 K4
    refine ab_block_k fun K5 h5 => ?_
    refine ab_loop_k (fun m env σ => ∃ i : Nat, i + m = W ∧ env = [(0, .f (.yield l) [] []), (15, .i .i64 W), (16, .i .i64 i)] ∧ J i σ ∧ LtAll σ ∧ n0 ≤ σ.length) W ⟨0, by omega, by simp, hJ, hL, by omega⟩ ?_
    clear s0 s1 hs0 s0' hs1 s1' hL hJ hn0 σ
    rintro m env σ ⟨i, hi, rfl, hJ, hL, hn⟩ K6 h6
    rw [ic93_0]
    refine ab_seq_k fun K7 h7 => ?_
    simp
    refine h7 _ _ _ ?_
    clear h7 K7
    refine ab_seq_k fun K8 h8 => ?_
    refine ab_cond_of rfl (fun hc => ?_) (fun hc => ?_)
    · have hil : i < W := by simpa using hc
      simp
      refine h8 _ _ _ ?_
      clear h8 K8
      refine ab_seq_k fun K9 h9 => ?_
      refine ab_block_k fun K10 h10 => ?_
      refine ab_seq_k fun K11 h11 => ?_
      simp
      refine h11 _ _ _ ?_
      clear h11 K11
      refine ab_seq_k fun K12 h12 => ?_
      simp
      obtain ⟨k0, hk0⟩ := hL.nil
      refine ⟨rfl, k0 + 2, σ.length, hn, Nat.le_refl _, rfl, i, σ, [], by rw [hk0 _ (by omega), List.append_nil], hil, ⟨by simp [hz2], rfl⟩, hJ, fun σ'' hJ'' hL'' hn'' => ?_, fun d σ'' hD hL'' hn'' => ?_⟩
      · simp
        refine h12 _ _ _ ?_
        refine ab_cond_of rfl (fun h => by cases h) (fun _ => ?_)
        simp
        refine h10 _ _ _ ?_
        refine h9 _ _ _ ?_
        simp [wrap64 (x := (i : Int) + 1) (by omega) (by omega)]
        exact h6 _ _ _ (again (m - 1) (by omega) ⟨i + 1, by omega, by simp, hJ'', hL'', hn''⟩)
      · simp
        refine h12 _ _ _ ?_
        refine ab_cond_of rfl (fun _ => ?_) (fun h => by cases h)
        simp
        exact hfin2 _ _ _ hD hL'' hn''
    · have hil : i = W := by simp at hc; omega
      subst hil
      simp
      refine h5 _ _ _ ?_
      refine h3 _ _ _ ?_
      simp
      exact hfin _ _ hJ hL hn
  · refine ab_cond_of rfl (fun h => absurd (of_decide_eq_true h) hz) (fun _ => ?_)
    simp
    refine h1 _ _ _ ?_
    clear h1 K1
    refine ab_seq_k fun K4 h4 => ?_
    simp [s0, s0']
    refine callK_of (all63m hN hW s1) ?_
    simp [wrap64 (x := (W : Int)) (by omega) (by omega)]
    refine h4 _ _ _ ?_
    clear h4 K4
    refine ab_block_k fun K5 h5 => ?_
    refine ab_loop_k (fun m env σ => ∃ i : Nat, i + m = W ∧ env = [(0, .f (.yield l) [] []), (1, .p ic 0 0), (26, .i .i64 W), (27, .i .i64 i)] ∧ J i σ ∧ LtAll σ ∧ n0 ≤ σ.length) W ⟨0, by omega, by simp, hJ, hL, by omega⟩ ?_
    clear s0 s1 hs0 s0' hs1 s1' hL hJ hn0 ev prs σ
    rintro m env σ ⟨i, hi, rfl, hJ, hL, hn⟩ K6 h6
    obtain ⟨s0, ev, prs, s1⟩ := hP i σ hJ
    obtain ⟨hs0, s0'⟩ := List.getElem?_eq_some_iff.1 s0
    obtain ⟨hs1, s1'⟩ := List.getElem?_eq_some_iff.1 s1
    rw [ic93_2]
    refine ab_seq_k fun K7 h7 => ?_
    simp
    refine h7 _ _ _ ?_
    clear h7 K7
    refine ab_seq_k fun K8 h8 => ?_
    refine ab_cond_of rfl (fun hc => ?_) (fun hc => ?_)
    · have hil : i < W := by simpa using hc
      simp
      refine h8 _ _ _ ?_
      clear h8 K8
      refine ab_seq_k fun K9 h9 => ?_
      refine ab_block_k fun K10 h10 => ?_
      refine ab_seq_k fun K11 h11 => ?_
      simp
      refine h11 _ _ _ ?_
      clear h11 K11
      refine ab_seq_k fun K12 h12 => ?_
      simp
      refine h12 _ _ _ ?_
      clear h12 K12
      refine ab_seq_k fun K13 h13 => ?_
      refine ab_seq_k fun K14 h14 => ?_
      simp [s0, s0', s1, s1']
      refine h14 _ _ _ ?_
      clear h14 K14
      refine ab_block_k fun K15 h15 => ?_
      refine ab_loop_k (fun m2 env σ2 => ∃ k : Nat, k + m2 = N ∧ env = [(0, .f (.yield l) [] []), (1, .p ic 0 0), (4, .i .i64 i), (5, .i .i64 (sumF F i k)), (26, .i .i64 W), (27, .i .i64 i), (34, .i .i64 N), (35, .i .i64 k)] ∧ σ2 = σ) N ⟨0, by omega, by simp [sumF], rfl⟩ ?_
      rintro m2 env σ2 ⟨k, hk, rfl, rfl⟩ K16 h16
      rw [ic93_1]
      refine ab_seq_k fun K17 h17 => ?_
      simp
      refine h17 _ _ _ ?_
      clear h17 K17
      refine ab_seq_k fun K18 h18 => ?_
      refine ab_cond_of rfl (fun hc2 => ?_) (fun hc2 => ?_)
      · have hkN : k < N := by simpa using hc2
        have hbk := bit_eq (s := i) (m := k) (by omega) (by omega)
        have hsb := sumF_b (F := F) (B := 2000000000) (by omega) hF (s := i) k
        have hFk := hF k
        have hg2 := ledC_g2 (n := N) (D := D) (f := f) (F := F) (ev := ev) (prs := prs) (i := k) (by omega) (h := by simp; omega)
        have hg3 := ledC_2 (n := N) (D := D) (f := f) (F := F) (ev := ev) (prs := prs) (i := k) (by omega)
        simp
        refine h18 _ _ _ ?_
        clear h18 K18
        refine ab_seq_k fun K19 h19 => ?_
        refine ab_block_k fun K20 h20 => ?_
        refine ab_seq_k fun K21 h21 => ?_
        simp
        refine h21 _ _ _ ?_
        clear h21 K21
        refine ab_seq_k fun K22 h22 => ?_
        simp [hbk]
        refine h22 _ _ _ ?_
        clear h22 K22
        have hend : ∀ env, get env 0 = .f (.yield l) [] [] → get env 1 = .p ic 0 0 → get env 4 = .i .i64 i → get env 5 = .i .i64 (sumF F i (k + 1)) → get env 26 = .i .i64 W → get env 27 = .i .i64 i → get env 34 = .i .i64 N → get env 35 = .i .i64 k → K20 none env σ2 := by
          intro env w0 w1 w4 w5 w26 w27 w34 w35
          refine h20 _ _ _ ?_
          refine h19 _ _ _ ?_
          simp [w0, w1, w4, w5, w26, w27, w34, w35, wrap64 (x := (k : Int) + 1) (by omega) (by omega)]
          exact h16 _ _ _ (again (m2 - 1) (by omega) ⟨k + 1, by omega, by simp, rfl⟩)
        cases hb : i.testBit k with
        | true =>
          refine ab_cond_of rfl (fun _ => ?_) (fun h => by simp [hb] at h)
          simp [s0, s0', s1, s1', hg2, hg3]
          rw [wrap64 (by omega) (by omega)]
          refine ⟨by omega, hend _ rfl rfl rfl ?_ rfl rfl rfl rfl⟩
          simp [sumF, hb]
        | false =>
          refine ab_cond_of rfl (fun h => by simp [hb] at h) (fun _ => ?_)
          simp
          exact hend _ rfl rfl rfl (by simp [sumF, hb]) rfl rfl rfl rfl
      · have hkN : k = N := by simp at hc2; omega
        subst hkN
        simp
        refine h15 _ _ _ ?_
        refine h13 _ _ _ ?_
        refine ab_seq_k fun K23 h23 => ?_
        simp
        obtain ⟨k0, hk0⟩ := hL.nil
        refine ⟨rfl, k0 + 2, σ2.length, hn, Nat.le_refl _, rfl, i, σ2, [], by rw [hk0 _ (by omega), List.append_nil], hil, ⟨by simp, rfl⟩, hJ, fun σ'' hJ'' hL'' hn'' => ?_, fun d σ'' hD hL'' hn'' => ?_⟩
        · simp [hs0]
          refine h23 _ _ _ ?_
          refine ab_cond_of rfl (fun h => by cases h) (fun _ => ?_)
          simp
          refine h10 _ _ _ ?_
          refine h9 _ _ _ ?_
          simp [wrap64 (x := (i : Int) + 1) (by omega) (by omega)]
          exact h6 _ _ _ (again (m - 1) (by omega) ⟨i + 1, by omega, by simp, hJ'', hL'', hn''⟩)
        · simp
          refine h23 _ _ _ ?_
          refine ab_cond_of rfl (fun _ => ?_) (fun h => by cases h)
          simp
          exact hfin2 _ _ _ hD hL'' hn''
    · have hil : i = W := by simp at hc; omega
      subst hil
      simp
      refine h5 _ _ _ ?_
      exact hfin _ _ hJ hL hn
end Go.Ab
