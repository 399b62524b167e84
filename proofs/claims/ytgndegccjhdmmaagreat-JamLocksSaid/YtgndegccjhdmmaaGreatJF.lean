/- Sets of logs, one after another: the iterator. -/
import Derived.Test.YtgndegccjhdmmaaGreatJE
set_option linter.unusedVariables false
set_option linter.unusedSimpArgs false
set_option maxHeartbeats 4000000
set_option maxRecDepth 100000
namespace Go.Ab
open Go Go.Proofs

theorem pow12 {N : Nat} (h : N ≤ 12) : 1 ≤ 2 ^ N ∧ 2 ^ N ≤ 4096 := by
  have h1 : 2 ^ N ≤ 2 ^ 12 := Nat.pow_le_pow_right (by omega) h
  have h2 : 0 < 2 ^ N := Nat.two_pow_pos N
  omega
/-- A heap, frozen or not. -/
def HeapAt (J : List Lg) (f : Bool) (v : V) (σ : List O) : Prop := (∃ b st, v = .sp (hpC J f b st) 0) ∨ ∃ id b st, v = .p id 0 0 ∧ σ[id]? = some (.row 0 (hpC J f b st))
theorem sets91 {v : V} {σ : List O} (hv : cellsOf v = some [v]) : FSpec Tryz.prog 91 [v] σ (.f (.func 115) [] [.p σ.length 0 0]) (σ ++ [.row 0 [v]]) := by
  refine fn91.spec mixed noIt_ok ?_
  rw [ic91]
  refine ab_seq_k fun K1 h1 => ?_
  simp [hv]
  refine h1 _ _ _ ?_
  clear h1 K1
  refine ab_seq_k fun K2 h2 => ?_
  simp
  refine h2 _ _ _ ?_
  clear h2 K2
  simp
  refine fin_all ?_
  simp [rs91]

def ItS (P : Program) (f : FuncId) (first cap : List V) (N : Nat) (X : Nat → List V → List O → List O → Prop) (Pre : List O → Prop) : Prop :=
  (∃ fn, P.funcs[f]? = some fn ∧ fn.name ≠ "runtime.NumGoroutine" ∧ fn.body.isSome = true) ∧
    ∀ (Inv : Md → Cx → List Deferred → Prop) (Y : Yield) (J Dn : Nat → List O → Prop) (C : Cx) (σ : List O) (l : Nat) (cargs : List Value), InvOK σ.length Inv → YOK P Fence.wide Inv Y → R C σ → Inv none C [] → J 0 σ → (∀ i σ, J i σ → Pre σ) →
      VRl C (first ++ [V.f (.yield l) [] []] ++ cap) cargs →
      (∀ i x σ' g' (Kont : Md → V → List O → Prop), i < N → X i x σ' g' → J i σ' → (∀ σ'', J (i + 1) σ'' → Kont none (.b true) σ'') → (∀ j σ'', Dn j σ'' → Kont (some j) (.b false) σ'') → Y l x (σ' ++ g') Kont) →
      CallsIn Fence.wide 0 P f cargs.toArray C.w (fun e w' => ∃ C' cv md σ', C'.w = w' ∧ e = .returned cv ∧ R C' σ' ∧ Inv md C' [] ∧ (match md with | none => J N σ' | some j => Dn j σ'))
abbrev ItT : ItTy := ItS Tryz.prog
theorem itT_ok : ItOK Tryz.prog ItT := fun _ _ _ _ _ _ h => h
theorem LtAll.nil {σ : List O} (h : LtAll σ) : ∃ k0, ∀ k, k0 ≤ k → frzS k σ.length σ = σ := by
  obtain ⟨k0, hk0⟩ := h.cut
  exact ⟨k0, fun k hk => by have := hk0 k hk []; rwa [List.append_nil] at this⟩

def SetAt (J : List Lg) (f : Bool) (ic : Nat) (v : V) (σ : List O) : Prop := σ[ic]? = some (.row 0 [v]) ∧ HeapAt J f v σ
def XSet (i : Nat) (x : List V) (σ g : List O) : Prop := x = [.i .u16 i] ∧ g = []
def PreC (J : List Lg) (f : Bool) (c : V) (σ : List O) : Prop := (∃ ic v, c = .p ic 0 0 ∧ SetAt J f ic v σ) ∨ ∃ b st, c = .sp [.sp (hpC J f b st) 0] 0
theorem ItS.imp {P : Program} {f : FuncId} {a b : List V} {N : Nat} {X X' : Nat → List V → List O → List O → Prop} {Pre Pre' : List O → Prop} (h : ItS P f a b N X Pre) (hX : ∀ i x σ g, i < N → X i x σ g → X' i x σ g) (hP : ∀ σ, Pre' σ → Pre σ) : ItS P f a b N X' Pre' :=
  ⟨h.1, fun Inv Y J Dn C σ l cargs h1 h2 h3 h4 h5 h6 h7 h8 => h.2 Inv Y J Dn C σ l cargs h1 h2 h3 h4 h5 (fun i σ hj => hP σ (h6 i σ hj)) h7 (fun i x σ' g' Kont hi hx hj hk hd => h8 i x σ' g' Kont hi (hX i x σ' g' hi hx) hj hk hd)⟩
theorem sets_itC {J : List Lg} {f : Bool} {W : Nat} {c : V} (hN : J.length ≤ 12) (hW : 2 ^ J.length = W) :
    ItT 115 [] [c] W XSet (PreC J f c) := by
  refine fn115.iter mixed (fun J2 Dn σ l hP hJ hL => ?_)
  generalize hn0 : σ.length = n0
  have hpw := pow12 hN
  rw [hW] at hpw
  have hP0 := hP 0 σ hJ
  rw [ic115]
  refine ab_seq_k fun K1 h1 => ?_
  have eW := shl_nat' (m := J.length) (by omega)
  rw [hW] at eW
  have hK1 : K1 none [(0, .f (.yield l) [] []), (10, .i .u16 W), (11, .i .u16 0)] σ := by
    refine h1 _ _ _ ?_
    clear h1 K1
    have hfin : ∀ env σ, J2 W σ → LtAll σ → n0 ≤ σ.length → finI n0 (J2 W) Dn none env σ := by
      intro env σ hJ hL hn
      obtain ⟨k1, hk1⟩ := hL.nil
      exact ⟨k1, σ.length, hn, Nat.le_refl _, by simp only; rw [hk1 _ (Nat.le_refl _)]; exact hJ⟩
    have hfin2 : ∀ env σ d, Dn d σ → LtAll σ → n0 ≤ σ.length → finI n0 (J2 W) Dn (some d) env σ := by
      intro env σ d hD hL hn
      obtain ⟨k1, hk1⟩ := hL.nil
      exact ⟨k1, σ.length, hn, Nat.le_refl _, by simp only; rw [hk1 _ (Nat.le_refl _)]; exact hD⟩
    refine ab_block_k fun K5 h5 => ?_
    refine ab_loop_k (fun m env σ => ∃ i : Nat, i + m = W ∧ env = [(0, .f (.yield l) [] []), (10, .i .u16 W), (11, .i .u16 i)] ∧ J2 i σ ∧ LtAll σ ∧ n0 ≤ σ.length) W ⟨0, by omega, by simp, hJ, hL, by omega⟩ ?_
    clear hL hJ hn0 hP0 σ
    rintro m env σ ⟨i, hi, rfl, hJ, hL, hn⟩ K6 h6
    rw [ic115_0]
    refine ab_seq_k fun K7 h7 => ?_
    simp
    refine h7 _ _ _ ?_
    clear h7 K7
    refine ab_seq_k fun K8 h8 => ?_
    refine ab_cond_of rfl (fun hc => ?_) (fun hc => ?_)
    · have hil : i < W := by simpa using hc
      simp
      refine h8 _ _ _ ?_
      clear h8 K8
      refine ab_seq_k fun K9 h9 => ?_
      refine ab_block_k fun K10 h10 => ?_
      refine ab_seq_k fun K11 h11 => ?_
      simp
      refine h11 _ _ _ ?_
      clear h11 K11
      refine ab_seq_k fun K12 h12 => ?_
      simp
      obtain ⟨k0, hk0⟩ := hL.nil
      refine ⟨rfl, k0 + 2, σ.length, hn, Nat.le_refl _, rfl, i, σ, [], by rw [hk0 _ (by omega), List.append_nil], hil, ⟨by simp, rfl⟩, hJ, fun σ'' hJ'' hL'' hn'' => ?_, fun d σ'' hD hL'' hn'' => ?_⟩
      · simp
        refine h12 _ _ _ ?_
        refine ab_cond_of rfl (fun h => by cases h) (fun _ => ?_)
        simp
        refine h10 _ _ _ ?_
        refine h9 _ _ _ ?_
        simp [wrapu (x := (i : Int) + 1) (by omega) (by omega)]
        exact h6 _ _ _ (again (m - 1) (by omega) ⟨i + 1, by omega, by simp, hJ'', hL'', hn''⟩)
      · simp
        refine h12 _ _ _ ?_
        refine ab_cond_of rfl (fun _ => ?_) (fun h => by cases h)
        simp
        exact hfin2 _ _ _ hD hL'' hn''
    · have hil : i = W := by simp at hc; omega
      subst hil
      simp
      refine h5 _ _ _ ?_
      exact hfin _ _ hJ hL hn
  rcases hP0 with ⟨ic, v, rfl, s0, ⟨b, st, rfl⟩ | ⟨id, b, st, rfl, s1⟩⟩ | ⟨b, st, rfl⟩
  · obtain ⟨hs0, s0'⟩ := List.getElem?_eq_some_iff.1 s0
    simp [s0, s0', eW]
    exact hK1
  · obtain ⟨hs0, s0'⟩ := List.getElem?_eq_some_iff.1 s0
    obtain ⟨hs1, s1'⟩ := List.getElem?_eq_some_iff.1 s1
    simp [s0, s0', s1, s1', eW]
    exact hK1
  · simp [eW]
    exact hK1
theorem sets_it {J : List Lg} {f : Bool} {W ic : Nat} {v : V} (hN : J.length ≤ 12) (hW : 2 ^ J.length = W) :
    ItT 115 [] [.p ic 0 0] W XSet (SetAt J f ic v) := (sets_itC hN hW).imp (fun _ _ _ _ _ h => h) fun σ h => .inl ⟨ic, v, rfl, h⟩
theorem sets_itF {J : List Lg} {f : Bool} {W : Nat} {b st : V} (hN : J.length ≤ 12) (hW : 2 ^ J.length = W) :
    ItT 115 [] [.sp [.sp (hpC J f b st) 0] 0] W XSet (fun _ => True) := (sets_itC (f := f) hN hW).imp (fun _ _ _ _ _ h => h) fun σ h => .inr ⟨b, st, rfl⟩
end Go.Ab
