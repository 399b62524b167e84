/- All orders: pick, orders. -/
import Derived.Test.YtkcfknlpdfgjnaaLF
set_option linter.unusedVariables false
set_option linter.unusedSimpArgs false
set_option maxHeartbeats 4000000
namespace Go.Ab
open Go Go.Proofs

theorem index86 {l : List Int} {f : Bool} {x : Int} (hl : (l.length : Int) < 1000000000) : FSpec Try.prog 86 [sl l f, .i .i64 x] [] (.i .i64 (match l.findIdx? (fun y => decide (x = y)) with | some i => (i : Int) | none => -1)) [] := by
  refine fn86.spec0 mixed noIt_ok ?_
  rw [ic86]
  refine ab_seq_k fun K1 h1 => ?_
  simp
  refine h1 _ _ _ ?_
  clear h1 K1
  refine ab_seq_k fun K2 h2 => ?_
  refine ab_seq_k fun K3 h3 => ?_
  simp
  refine h3 _ _ _ ?_
  clear h3 K3
  refine ab_block_k fun K4 h4 => ?_
  refine ab_loop_k (fun m env σ => ∃ i : Nat, i + m = l.length ∧ (∀ (j : Nat) (y : Int), j < i → l[j]? = some y → ¬ x = y) ∧ env = [(0, sl l f), (1, .i .i64 x), (7, .i .i64 l.length), (8, .i .i64 i)]) l.length ⟨0, by omega, by simp, by simp⟩ ?_
  rintro m env σ ⟨i, hi, hpre, rfl⟩ K5 h5
  rw [ic86_0]
  refine ab_seq_k fun K6 h6 => ?_
  simp
  refine h6 _ _ _ ?_
  clear h6 K6
  refine ab_seq_k fun K7 h7 => ?_
  refine ab_cond_of rfl (fun hc => ?_) (fun hc => ?_)
  · have hil : i < l.length := by simpa using hc
    have hget : l[i]? = some l[i] := List.getElem?_eq_getElem hil
    generalize hy : l[i] = y at hget
    simp
    refine h7 _ _ _ ?_
    clear h7 K7
    refine ab_seq_k fun K8 h8 => ?_
    refine ab_block_k fun K9 h9 => ?_
    refine ab_seq_k fun K10 h10 => ?_
    simp
    refine h10 _ _ _ ?_
    clear h10 K10
    refine ab_seq_k fun K11 h11 => ?_
    simp [hil, hget, hy]
    refine h11 _ _ _ ?_
    refine ab_cond_of rfl (fun hc2 => ?_) (fun hc2 => ?_)
    · have he : x = y := by simpa using hc2
      have hf : l.findIdx? (fun y => decide (x = y)) = some i := by
        rw [List.findIdx?_eq_some_iff_getElem]
        exact ⟨hil, by rw [hy]; simp [he], fun j hj => by have := hpre j _ hj (List.getElem?_eq_getElem (by omega)); simpa using this⟩
      refine ab_seq_k fun K12 h12 => ?_
      simp
      refine h12 _ _ _ ?_
      clear h12 K12
      simp
      exact fin_of 1 (by simp [rs86, hf])
    · have he : ¬ x = y := by simpa using hc2
      simp
      refine h9 _ _ _ ?_
      refine h8 _ _ _ ?_
      simp [wrap64 (x := (i : Int) + 1) (by omega) (by omega)]
      refine h5 _ _ _ (again (m - 1) (by omega) ⟨i + 1, by omega, fun j z hj hz => ?_, by simp⟩)
      by_cases hji : j = i
      · subst hji; rw [hget] at hz; cases hz; exact he
      · exact hpre j z (by omega) hz
  · have hil : i = l.length := by simp at hc; omega
    subst hil
    have hf : l.findIdx? (fun y => decide (x = y)) = none := by
      rw [List.findIdx?_eq_none_iff]
      intro y hy
      obtain ⟨j, hj⟩ := List.mem_iff_getElem?.1 hy
      have := hpre j y (List.getElem?_eq_some_iff.1 hj).1 hj
      simpa using this
    simp
    refine h4 _ _ _ ?_
    refine h2 _ _ _ ?_
    refine ab_seq_k fun K13 h13 => ?_
    simp
    refine h13 _ _ _ ?_
    clear h13 K13
    simp
    exact fin_of 1 (by simp [rs86, hf])
theorem contains83 {l : List Int} {f : Bool} {x : Int} (hl : (l.length : Int) < 1000000000) : FSpec Try.prog 83 [sl l f, .i .i64 x] [] (.b (l.contains x)) [] := by
  refine fn83.spec0 mixed noIt_ok ?_
  rw [ic83]
  refine ab_seq_k fun K1 h1 => ?_
  simp
  refine h1 _ _ _ ?_
  clear h1 K1
  refine ab_seq_k fun K2 h2 => ?_
  simp
  refine callK_of (index86 hl) ?_
  simp
  refine h2 _ _ _ ?_
  clear h2 K2
  simp
  refine fin_of 1 ?_
  simp [rs83]
  cases h : l.findIdx? (fun y => decide (x = y)) with
  | none =>
    rw [List.findIdx?_eq_none_iff] at h
    have : x ∉ l := fun hx => by have := h x hx; simp at this
    simp [this]
  | some i =>
    rw [List.findIdx?_eq_some_iff_getElem] at h
    obtain ⟨h1, h2, -⟩ := h
    have : x ∈ l := by
      have e : x = l[i] := by simpa using h2
      rw [e]; exact List.getElem_mem h1
    simp [this]

/-! ### Orders, as pick yields them -/
def picks (n : Nat) : Nat → List Int → List (List Int)
  | 0, b => [b]
  | k + 1, b => (List.range n).flatMap fun (i : Nat) => if (i : Int) ∈ b then [] else picks n k (b ++ [(i : Int)])
/-- Those whose next one is less than i. -/
def picksTo (n k : Nat) (b : List Int) (i : Nat) : List (List Int) := (List.range i).flatMap fun (i : Nat) => if (i : Int) ∈ b then [] else picks n k (b ++ [(i : Int)])
theorem picksTo_succ {n k : Nat} {b : List Int} {i : Nat} : picksTo n k b (i + 1) = picksTo n k b i ++ if (i : Int) ∈ b then [] else picks n k (b ++ [(i : Int)]) := by
  simp [picksTo, List.range_succ]
theorem picksTo_all {n k : Nat} {b : List Int} : picksTo n k b n = picks n (k + 1) b := rfl
theorem picksTo_le {n k : Nat} {b : List Int} {i : Nat} (h : i ≤ n) : ∃ r, picks n (k + 1) b = picksTo n k b i ++ r := by
  obtain ⟨d, rfl⟩ : ∃ d, n = i + d := ⟨n - i, by omega⟩
  rw [← picksTo_all]
  unfold picksTo
  rw [List.range_add, List.flatMap_append]
  exact ⟨_, rfl⟩
/-- Some number is not in a list that is shorter. -/
theorem fresh_num {n : Nat} {b : List Int} (h : b.length < n) : ∃ i : Nat, i < n ∧ (i : Int) ∉ b := by
  false_or_by_contra
  rename_i hno
  have hall : ∀ i : Nat, i < n → (i : Int) ∈ b := fun i hi => by
    false_or_by_contra
    exact hno ⟨i, hi, by assumption⟩
  have hsub : ((List.range n).map Int.ofNat).Subset b := by
    intro x hx
    obtain ⟨i, hi, rfl⟩ := List.mem_map.1 hx
    exact hall i (List.mem_range.1 hi)
  have hnd : ((List.range n).map Int.ofNat).Nodup := by
    rw [List.Nodup, List.pairwise_map]
    exact List.nodup_range.imp (fun h e => h (Int.ofNat.inj e))
  have := hnd.length_le_of_subset hsub
  simp at this
  omega
theorem picks_ne {n : Nat} : ∀ {k : Nat} {b : List Int}, b.length + k ≤ n → picks n k b ≠ []
  | 0, b, _ => by simp [picks]
  | k + 1, b, h => by
    obtain ⟨i, hi, hb⟩ := fresh_num (n := n) (b := b) (by omega)
    have ih := picks_ne (n := n) (k := k) (b := b ++ [(i : Int)]) (by simp; omega)
    obtain ⟨p, hp⟩ := List.exists_mem_of_ne_nil _ ih
    intro e
    have : p ∈ picks n (k + 1) b := List.mem_flatMap.2 ⟨i, List.mem_range.2 hi, by rw [if_neg hb]; exact hp⟩
    rw [e] at this
    cases this

def XP (n : Nat) (L : List (List Int)) (i : Nat) (x : List V) (σ g : List O) : Prop := ∃ p, L[i]? = some p ∧ x = [.s σ.length 0 0 n 1] ∧ g = [.row 0 (ints p)]
/-- How what is begun is handed to pick. -/
def BegV (b : List Int) (bv : V) (s1 g : List O) : Prop := (g = [] ∧ ∃ f, bv = sl b f) ∨ (bv = .s s1.length 0 0 b.length 1 ∧ g = [.row 0 (ints b)])
theorem BegV.sli {b : List Int} {bv : V} {s1 g : List O} (h : BegV b bv s1 g) : SlI (s1 ++ g) bv b := by
  rcases h with ⟨rfl, f, rfl⟩ | ⟨rfl, rfl⟩
  · exact .ss
  · exact .inr ⟨s1.length, 0, rfl, by simp⟩
theorem BegV.frz {b : List Int} {bv : V} {s1 g : List O} (h : BegV b bv s1 g) {k : Nat} : ∃ f, Go.Ab.frz (k + 2) s1.length (s1 ++ g) bv = sl b f := by
  rcases h with ⟨rfl, f, rfl⟩ | ⟨rfl, rfl⟩
  · exact ⟨f, frz_pure (by simp)⟩
  · exact ⟨false, frz_ints (k := k) (id := s1.length) (ver := 0) (l := b) (by simp) (Nat.le_refl _)⟩
theorem LtAll.nil {σ : List O} (h : LtAll σ) : ∃ k0, ∀ k, k0 ≤ k → frzS k σ.length σ = σ := by
  obtain ⟨k0, hk0⟩ := h.cut
  exact ⟨k0, fun k hk => by have := hk0 k hk []; rwa [List.append_nil] at this⟩

theorem pick_ys {n : Nat} (hn : (n : Int) < 1000000) : ∀ {k : Nat} {b : List Int} {bv : V} {s1 g : List O} {n0 l : Nat}, b.length + k = n → BegV b bv s1 g → (k = 0 → g ≠ []) → LtAll s1 → n0 ≤ s1.length →
    YS Try.prog 76 [.i .i64 n, bv, .f (.yield l) [] []] s1 g n0 l (picks n k b).length (XP n (picks n k b)) (fun _ => True) := by
  intro k
  induction k with
  | zero =>
    intro b bv s1 g n0 l hbk hbv hg hlt hn0
    refine fn76.ys mixed (fun J Dn _ hJ hL => ?_)
    have hbl : b.length = n := by omega
    rcases hbv with ⟨h, -⟩ | ⟨rfl, rfl⟩
    · exact absurd h (hg rfl)
    rw [ic76]
    refine ab_seq_k fun K1 h1 => ?_
    simp
    refine h1 _ _ _ ?_
    clear h1 K1
    refine ab_seq_k fun K2 h2 => ?_
    refine ab_seq_k fun K3 h3 => ?_
    simp [hbl]
    refine h3 _ _ _ ?_
    clear h3 K3
    refine ab_cond_of rfl (fun _ => ?_) (fun h => by simp at h)
    refine ab_seq_k fun K4 h4 => ?_
    simp
    obtain ⟨k0, hk0⟩ := hL.nil
    refine ⟨rfl, k0 + 2, (s1 ++ [O.row 0 (ints b)]).length, by simp; omega, by simp, ?_⟩
    rw [hk0 _ (by omega)]
    have hfz : frz (k0 + 2) (s1 ++ [O.row 0 (ints b)]).length (s1 ++ [O.row 0 (ints b)]) (.s s1.length 0 0 n 1) = .s s1.length 0 0 n 1 := by simp [frz]
    have hN : (picks n 0 b).length = 1 := by simp [picks]
    rw [hN]
    refine ⟨rfl, 0, s1, [O.row 0 (ints b)], rfl, by omega, ⟨b, by simp [picks], by simp only [List.map_cons, List.map_nil, hfz], rfl⟩, hJ, fun σ'' hJ' hL' hn' => ?_, fun d σ'' hD hL' hn' => ?_⟩
    · simp
      refine h4 _ _ _ ?_
      simp
      obtain ⟨k1, hk1⟩ := hL'.nil
      exact ⟨k1, σ''.length, hn', Nat.le_refl _, by simp [rs76]; rw [hk1 _ (Nat.le_refl _)]; exact hJ'⟩
    · simp
      refine h4 _ _ _ ?_
      simp
      obtain ⟨k1, hk1⟩ := hL'.nil
      exact ⟨k1, σ''.length, hn', Nat.le_refl _, by simp [rs76]; rw [hk1 _ (Nat.le_refl _)]; exact hD⟩
  | succ k ih =>
    intro b bv s1 g n0 l hbk hbv hg hlt hn0
    refine fn76.ys mixed (fun J Dn _ hJ hL => ?_)
    rw [ic76]
    refine ab_seq_k fun K1 h1 => ?_
    simp
    refine h1 _ _ _ ?_
    clear h1 K1
    refine ab_seq_k fun K2 h2 => ?_
    refine ab_seq_k fun K3 h3 => ?_
    simp
    refine lenI hbv.sli ?_
    simp
    refine h3 _ _ _ ?_
    clear h3 K3
    refine ab_cond_of rfl (fun h => by simp at h; omega) (fun _ => ?_)
    simp
    refine h2 _ _ _ ?_
    clear h2 K2
    refine ab_seq_k fun K4 h4 => ?_
    refine ab_seq_k fun K5 h5 => ?_
    simp
    refine h5 _ _ _ ?_
    clear h5 K5
    refine ab_block_k fun K6 h6 => ?_
    obtain ⟨k0, hk0⟩ := hlt.cut
    obtain ⟨f0, hf0⟩ := hbv.frz (k := k0)
    refine ab_loop_f (fun m env σ => ∃ (i : Nat) (f : Bool), i + m = n ∧ env = [(0, .i .i64 n), (1, sl b f), (2, .f (.yield l) [] []), (15, .i .i64 n), (16, .i .i64 i)] ∧ J (picksTo n k b i).length σ ∧ LtAll σ ∧ n0 ≤ σ.length) n (k0 + 2) s1.length hn0 (by simp)
      ⟨0, f0, by omega, ?_, by rw [hk0 _ (by omega)]; exact hJ, by rw [hk0 _ (by omega)]; exact hlt, by rw [hk0 _ (by omega)]; exact hn0⟩ ?_
    · simp only [frzE, List.map_cons, List.map_nil, hf0]
      simp [frz]
    rintro m env σ ⟨i, f, hi, rfl, hJi, hLi, hni⟩ K7 h7
    rw [ic76_0]
    refine ab_seq_k fun K8 h8 => ?_
    simp
    refine h8 _ _ _ ?_
    clear h8 K8
    refine ab_seq_k fun K9 h9 => ?_
    refine ab_cond_of rfl (fun hc => ?_) (fun hc => ?_)
    · have hin : i < n := by simpa using hc
      have hstep := picksTo_succ (n := n) (k := k) (b := b) (i := i)
      simp
      refine h9 _ _ _ ?_
      clear h9 K9
      refine ab_seq_k fun K10 h10 => ?_
      refine ab_block_k fun K11 h11 => ?_
      have hnext : ∀ env σ', get env 0 = .i .i64 n → get env 1 = sl b f → get env 2 = .f (.yield l) [] [] → get env 15 = .i .i64 n → get env 16 = .i .i64 i → J (picksTo n k b (i + 1)).length σ' → LtAll σ' → n0 ≤ σ'.length → K11 none env σ' := by
        intro env σ' w0 w1 w2 w15 w16 a1 a2 a3
        refine h11 _ _ _ ?_
        refine h10 _ _ _ ?_
        simp [w0, w1, w2, w15, w16, wrap64 (x := (i : Int) + 1) (by omega) (by omega)]
        exact h7 _ _ _ (again (m - 1) (by omega) ⟨i + 1, f, by omega, by simp, a1, a2, a3⟩)
      refine ab_seq_k fun K12 h12 => ?_
      simp
      refine h12 _ _ _ ?_
      clear h12 K12
      refine ab_seq_k fun K13 h13 => ?_
      refine ab_seq_k fun K14 h14 => ?_
      simp
      refine callK_of (FSpec.frame (contains83 (l := b) (f := f) (x := (i : Int)) (by omega)) (by simp) rfl) ?_
      simp
      refine h14 _ _ _ ?_
      clear h14 K14
      refine ab_cond_of rfl (fun hc2 => ?_) (fun hc2 => ?_)
      · have hib : (i : Int) ∈ b := by simpa using hc2
        rw [if_pos hib, List.append_nil] at hstep
        simp
        exact hnext _ _ rfl rfl rfl rfl rfl (by rw [hstep]; exact hJi) hLi hni
      · have hib : ¬ (i : Int) ∈ b := by simpa using hc2
        rw [if_neg hib] at hstep
        simp
        refine h13 _ _ _ ?_
        clear h13 K13
        refine ab_seq_k fun K15 h15 => ?_
        simp
        refine ⟨by omega, ?_⟩
        have hrow : List.take b.length (ints b) ++ [V.i IntKind.i64 (i : Int)] = ints (b ++ [(i : Int)]) := by
          rw [List.take_of_length_le (by simp)]; simp [ints]
        rw [hrow]
        have hbl : (b ++ [(i : Int)]).length = b.length + 1 := by simp
        have hne : picks n k (b ++ [(i : Int)]) ≠ [] := picks_ne (by simp; omega)
        have hpos : 0 < (picks n k (b ++ [(i : Int)])).length := List.length_pos_iff.2 hne
        obtain ⟨r, hr⟩ := picksTo_le (n := n) (k := k) (b := b) (i := i + 1) (by omega)
        rw [hstep] at hr
        have hget : ∀ j, j < (picks n k (b ++ [(i : Int)])).length → (picks n (k + 1) b)[(picksTo n k b i).length + j]? = (picks n k (b ++ [(i : Int)]))[j]? := by
          intro j hj
          rw [hr, List.append_assoc, List.getElem?_append_right (by omega), Nat.add_sub_cancel_left, List.getElem?_append_left hj]
        have hys := ih (b := b ++ [(i : Int)]) (bv := .s σ.length 0 0 (b ++ [(i : Int)]).length 1) (s1 := σ) (g := [.row 0 (ints (b ++ [(i : Int)]))]) (n0 := n0) (l := l) (by simp; omega) (.inr ⟨rfl, rfl⟩) (by simp) hLi hni
        rw [hbl] at hys
        refine callY_of (i0 := (picksTo n k b i).length) hys hpos ?_ ?_ (fun _ _ _ => trivial) hJi ?_ ?_ ?_
        · rw [hr]; simp
        · rintro j x σ' g' hj ⟨p, hp1, hp2, hp3⟩
          exact ⟨p, by rw [hget j hj]; exact hp1, hp2, hp3⟩
        · have h0 := hget 0 hpos
          rw [Nat.add_zero, List.getElem?_eq_getElem hpos] at h0
          exact ⟨_, _, _, h0, rfl, rfl⟩
        · intro σ' hJ' hL' hn'
          simp
          refine h15 _ _ _ ?_
          refine ab_cond_of rfl (fun h => by cases h) (fun _ => ?_)
          simp
          refine hnext _ _ rfl (by simp) rfl rfl rfl ?_ hL' hn'
          rw [hstep, List.length_append]
          exact hJ'
        · intro d σ' hD hL' hn'
          simp
          refine h15 _ _ _ ?_
          refine ab_cond_of rfl (fun _ => ?_) (fun h => by cases h)
          refine ab_seq_k fun K16 h16 => ?_
          simp
          refine h16 _ _ _ ?_
          clear h16 K16
          simp
          obtain ⟨k1, hk1⟩ := hL'.nil
          exact ⟨k1, σ'.length, hn', Nat.le_refl _, by simp [rs76]; rw [hk1 _ (Nat.le_refl _)]; exact hD⟩
    · have hin : i = n := by simp at hc; omega
      subst hin
      rw [picksTo_all] at hJi
      simp
      refine h6 _ _ _ ?_
      refine h4 _ _ _ ?_
      refine ab_seq_k fun K20 h20 => ?_
      simp
      refine h20 _ _ _ ?_
      clear h20 K20
      simp
      obtain ⟨k1, hk1⟩ := hLi.nil
      exact ⟨k1, σ.length, hni, Nat.le_refl _, by simp [rs76]; rw [hk1 _ (Nat.le_refl _)]; exact hJi⟩

/-- The semantic reading of 'this function yields just these'. -/
def ItS (P : Program) (f : FuncId) (first cap : List V) (N : Nat) (X : Nat → List V → List O → List O → Prop) (Pre : List O → Prop) : Prop :=
    (∃ fn, P.funcs[f]? = some fn ∧ fn.name ≠ "runtime.NumGoroutine" ∧ fn.body.isSome = true) ∧
    ∀ (Inv : Md → Cx → List Deferred → Prop) (Y : Yield) (J Dn : Nat → List O → Prop) (C : Cx) (σ : List O) (l : Nat) (cargs : List Value), InvOK σ.length Inv → YOK P Fence.wide Inv Y → R C σ → Inv none C [] → J 0 σ → (∀ i σ, J i σ → Pre σ) →
      VRl C (first ++ [V.f (.yield l) [] []] ++ cap) cargs →
      (∀ i x σ' g' (Kont : Md → V → List O → Prop), i < N → X i x σ' g' → J i σ' → (∀ σ'', J (i + 1) σ'' → Kont none (.b true) σ'') → (∀ j σ'', Dn j σ'' → Kont (some j) (.b false) σ'') → Y l x (σ' ++ g') Kont) →
      CallsIn Fence.wide 0 P f cargs.toArray C.w (fun e w' => ∃ C' cv md σ', C'.w = w' ∧ e = .returned cv ∧ R C' σ' ∧ Inv md C' [] ∧ (match md with | none => J N σ' | some j => Dn j σ'))
abbrev ItT : ItTy := ItS Try.prog
theorem itT_ok : ItOK Try.prog ItT := fun _ _ _ _ _ _ h => h

/-- What the canal's cell holds, at each yield: the pointer to a canal of n rafts. -/
def CanAt (n : Nat) (ic id : Nat) (σ : List O) : Prop := σ[ic]? = some (.row 0 [.p id 0 0]) ∧ ∃ cells ts f, σ[id]? = some (.row 0 cells) ∧ cells[0]? = some (.ss ts n f)
theorem orders_it {n ic id : Nat} (hn : (n : Int) < 1000000) (h1 : 1 ≤ n) :
    ItT 75 [] [.p ic 0 0] (picks n n []).length (XP n (picks n n [])) (CanAt n ic id) := by
  refine fn75.iter mixed (fun J Dn σ l hP hJ hL => ?_)
  obtain ⟨hc, cells, ts, f, hi, h0⟩ := hP 0 σ hJ
  obtain ⟨h01, h02⟩ := List.getElem?_eq_some_iff.1 h0
  rw [ic75]
  simp [hc, hi, h0, h02]
  have hys := pick_ys hn (k := n) (b := []) (bv := .ss [] 0 true) (s1 := σ) (g := []) (n0 := σ.length) (l := l) (by simp) (.inl ⟨rfl, true, rfl⟩) (fun h => by omega) hL (Nat.le_refl _)
  have hpos : 0 < (picks n n []).length := List.length_pos_iff.2 (picks_ne (by simp))
  have hget : (picks n n [])[0]? = some (picks n n [])[0] := List.getElem?_eq_getElem hpos
  have key := callY_of (P := Try.prog) (n0 := σ.length) (K := abSs Try.prog (yieldsK l (picks n n []).length (XP n (picks n n [])) J Dn) σ.length [] (keepK (some []) (finI σ.length (J (picks n n []).length) Dn)))
    (env := [(9, V.f (Fn.yield l) [] []), (8, V.i IntKind.i64 ↑n), (7, V.ss ts n f), (6, V.p id 0 0), (5, V.p id 0 0), (4, V.p id 0 0), (3, V.p id 0 0), (0, V.f (Fn.yield l) [] []), (1, V.p ic 0 0)])
    (dst := some 10) (g := []) (N := (picks n n []).length) (X := XP n (picks n n [])) (J := J) (Dn := Dn) (i0 := 0) hys hpos (by omega) (fun i x σ g hi hx => by rw [Nat.zero_add]; exact hx) (fun _ _ _ => trivial) hJ ⟨_, _, _, hget, rfl, rfl⟩ ?_ ?_
  · rw [List.append_nil] at key
    exact key
  · intro σ' hJ' hL' hn'
    rw [Nat.zero_add] at hJ'
    obtain ⟨k1, hk1⟩ := hL'.nil
    simp
    exact ⟨k1, σ'.length, hn', Nat.le_refl _, by simp only; rw [hk1 _ (Nat.le_refl _)]; exact hJ'⟩
  · intro d σ' hD hL' hn'
    obtain ⟨k1, hk1⟩ := hL'.nil
    simp
    exact ⟨k1, σ'.length, hn', Nat.le_refl _, by simp only; rw [hk1 _ (Nat.le_refl _)]; exact hD⟩
end Go.Ab
