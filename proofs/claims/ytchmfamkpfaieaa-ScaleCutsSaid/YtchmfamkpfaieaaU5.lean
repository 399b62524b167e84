/- The right logs that begin at a place, as they are yielded; the contract of logs. -/
import Derived.Test.YtchmfamkpfaieaaU4
set_option linter.unusedVariables false
set_option linter.unusedSimpArgs false
set_option maxHeartbeats 4000000
namespace Go.Ab
open Go Go.Proofs

/-- The semantic reading of 'this function yields just these'. -/
def ItS (P : Program) (f : FuncId) (first cap : List V) (xs : List (List V)) (Pre : List O → Prop) : Prop :=
    (∃ fn, P.funcs[f]? = some fn ∧ fn.name ≠ "runtime.NumGoroutine" ∧ fn.body.isSome = true) ∧
    ∀ (Inv : Md → Cx → List Deferred → Prop) (Y : Yield) (J Dn : Nat → List O → Prop) (C : Cx) (σ : List O) (l : Nat) (cargs : List Value), InvOK σ.length Inv → YOK P Fence.wide Inv Y → R C σ → Inv none C [] → J 0 σ → (∀ i σ, J i σ → Pre σ) →
      VRl C (first ++ [V.f (.yield l) [] []] ++ cap) cargs →
      (∀ i x σ' (Kont : Md → V → List O → Prop), xs[i]? = some x → J i σ' → (∀ σ'', J (i + 1) σ'' → Kont none (.b true) σ'') → (∀ j σ'', Dn j σ'' → Kont (some j) (.b false) σ'') → Y l x σ' Kont) →
      CallsIn Fence.wide 0 P f cargs.toArray C.w (fun e w' => ∃ C' cv md σ', C'.w = w' ∧ e = .returned cv ∧ R C' σ' ∧ Inv md C' [] ∧ (match md with | none => J xs.length σ' | some j => Dn j σ'))
abbrev ItT : ItTy := ItS Try.prog
theorem itT_ok : ItOK Try.prog ItT := fun _ _ _ _ _ h => h

/-- Up to so many places behind: where they end, and what they scale. -/
def logsUp (kn : Kn) (fr : Nat) : Nat → List (Int × Int)
  | 0 => []
  | j + 1 => logsUp kn fr j ++ (if 0 < look kn (fr, (fr : Int) + 1 + j) then [((fr : Int) + 1 + j, look kn (fr, (fr : Int) + 1 + j))] else [])
def logV (fr : Nat) (p : Int × Int) : List V := [.agg [.i .i64 fr, .i .i64 p.1], .i .i64 p.2]

theorem logsUp_pre {kn : Kn} {fr : Nat} : ∀ {d j : Nat}, ∃ r, logsUp kn fr (j + d) = logsUp kn fr j ++ r
  | 0, j => ⟨[], by simp⟩
  | d + 1, j => by
    obtain ⟨r, hr⟩ := logsUp_pre (kn := kn) (fr := fr) (d := d) (j := j)
    rw [show j + (d + 1) = (j + d) + 1 by omega, logsUp, hr, List.append_assoc]
    exact ⟨_, rfl⟩

theorem logsUp_get {kn : Kn} {fr j n : Nat} (h : j < n) (hp : 0 < look kn (fr, (fr : Int) + 1 + j)) : ((logsUp kn fr n).map (logV fr))[(logsUp kn fr j).length]? = some (logV fr ((fr : Int) + 1 + j, look kn (fr, (fr : Int) + 1 + j))) := by
  obtain ⟨r, hr⟩ := logsUp_pre (kn := kn) (fr := fr) (d := n - (j + 1)) (j := j + 1)
  rw [show j + 1 + (n - (j + 1)) = n by omega] at hr
  rw [List.getElem?_map, hr, logsUp, if_pos hp, List.append_assoc, List.getElem?_append_right (Nat.le_refl _)]
  simp

def inv84 (t : List Int) (ft : Bool) (b : List Int) (fb : Bool) (kn : Kn) (fr l n0 : Nat) (J : Nat → List O → Prop) (m : Nat) (env : Env) (σ : List O) : Prop :=
  ∃ j : Nat, j + m = t.length - 1 - fr ∧ env = [(0, .f (.yield l) [] []), (1, .sp [.i .i64 fr] 0), (2, .sp [yardV t ft b fb kn] 0), (4, .i .i64 ((fr : Int) + 1 + j))] ∧ J (logsUp kn fr j).length σ ∧ LtAll σ ∧ n0 ≤ σ.length

theorem logs_it {t : List Int} {ft : Bool} {b : List Int} {fb : Bool} {kn : Kn} {fr : Nat} (h1 : 1 ≤ t.length) (h61 : t.length ≤ 61) (hfr : fr < t.length) :
    ItT 84 [] [.sp [.i .i64 fr] 0, .sp [yardV t ft b fb kn] 0] ((logsUp kn fr (t.length - 1 - fr)).map (logV fr)) (fun _ => true = true) := by
  refine fn84.iter mixed (fun J Dn σ l _ hJ hL => ?_)
  generalize hn0 : σ.length = n0
  rw [ic84]
  refine ab_seq_k fun K1 h1 => ?_
  simp [wrap64 (x := (fr : Int) + 1) (by omega) (by omega)]
  refine h1 _ _ _ ?_
  clear h1 K1
  refine ab_block_k fun K2 h2 => ?_
  refine ab_loop_k (inv84 t ft b fb kn fr l n0 J) (t.length - 1 - fr) ⟨0, by omega, by simp, hJ, hL, by omega⟩ ?_
  rintro m env σ ⟨j, hj, rfl, hJ, hL, hn⟩ K3 h3
  rw [ic84_0]
  refine ab_seq_k fun K4 h4 => ?_
  refine ab_seq_k fun K5 h5 => ?_
  simp
  refine callK_of (FSpec.frame (long_ok (cells := [sl t ft, sl b fb, knownV kn]) (off := 0) (t := ints t) (n := t.length) (full := ft) rfl (by omega)) (by simp) rfl) ?_
  simp
  refine h5 _ _ _ ?_
  refine ab_cond_of rfl (fun hc => ?_) (fun hc => ?_)
  · simp
    refine h4 _ _ _ ?_
    refine ab_seq_k fun K6 h6 => ?_
    refine ab_block_k fun K7 h7 => ?_
    refine ab_seq_k fun K8 h8 => ?_
    simp
    refine h8 _ _ _ ?_
    refine ab_seq_k fun K9 h9 => ?_
    simp
    refine callK_of (FSpec.frame (scale_ok (t := t) (ft := ft) (b := b) (fb := fb) (kn := kn) (x := fr) (y := (fr : Int) + 1 + j)) (by simp) rfl) ?_
    simp
    refine h9 _ _ _ ?_
    have hjn : j < t.length - 1 - fr := by simp at hc; omega
    refine ab_seq_k fun K10 h10 => ?_
    have go : ∀ {env σ i}, keep env [0, 1, 2, 4] = [(0, .f (.yield l) [] []), (1, .sp [.i .i64 fr] 0), (2, .sp [yardV t ft b fb kn] 0), (4, .i .i64 ((fr : Int) + 1 + j))] → get env 29 = .b false → i = (logsUp kn fr (j + 1)).length → (∃ σ0 g, σ = σ0 ++ g ∧ J i σ0 ∧ LtAll σ0 ∧ n0 ≤ σ0.length) → K10 none env σ := by
      rintro env σ i he hb rfl ⟨σ0, g, rfl, hJ, hL, hn⟩
      obtain ⟨k0, hk0⟩ := hL.cut
      simp at he
      obtain ⟨e1, e2, e3, e4⟩ := he
      refine h10 _ _ _ ?_
      refine ab_cond_of hb (fun hc => by cases hc) (fun _ => ?_)
      simp
      refine h7 _ _ _ ?_
      refine h6 _ _ _ ?_
      simp [e1, e2, e3, e4, wrap64 (x := (fr : Int) + 1 + j + 1) (by omega) (by omega)]
      refine h3 _ _ _ (againF (m - 1) (k0 + 1) σ0.length (by omega) hn (by simp) ⟨j + 1, by omega, ?_, by rw [hk0 _ (by omega)]; exact hJ, by rw [hk0 _ (by omega)]; exact hL, by rw [hk0 _ (by omega)]; exact hn⟩)
      simp
      omega
    obtain ⟨k0, hk0⟩ := hL.cut
    by_cases hp : 0 < look kn (fr, (fr : Int) + 1 + j)
    · simp [hp]
      refine ⟨rfl, k0 + 2, σ.length, hn, by simp, rfl, (logsUp kn fr j).length, ?_, ?_, ?_, ?_⟩
      · rw [logsUp_get hjn hp]
        simp [logV]
      · rw [hk0 _ (by omega)]
        exact hJ
      · intro σ'' hJ'' hL'' hn''
        simp
        exact go (by simp) (by simp) (by rw [logsUp, if_pos hp]; simp) ⟨σ'', [], by simp, hJ'', hL'', hn''⟩
      · intro d σ'' hD hL'' hn''
        simp
        refine h10 _ _ _ ?_
        refine ab_cond_of rfl (fun _ => ?_) (fun hc => by cases hc)
        simp
        obtain ⟨k1, hk1⟩ := hL''.cut
        exact ⟨k1, σ''.length, hn'', Nat.le_refl _, by have := hk1 k1 (Nat.le_refl _) []; rw [List.append_nil] at this; simp only; rw [this]; exact hD⟩
    · simp [hp]
      exact go (by simp) (by simp) (by rw [logsUp, if_neg hp]; simp) ⟨σ, _, rfl, hJ, hL, hn⟩
  · simp -- exit 0
    refine h2 _ _ _ ?_
    have hjn : j = t.length - 1 - fr := by simp at hc; omega
    subst hjn
    obtain ⟨k1, hk1⟩ := hL.cut
    exact ⟨k1, σ.length, hn, Nat.le_refl _, by have := hk1 k1 (Nat.le_refl _) []; rw [List.append_nil] at this; simp only; rw [this, List.length_map]; exact hJ⟩

theorem logs_ok {cells : List V} {off : Nat} {fr : Int} (hy : pureL cells = true) : FSpec Try.prog 67 [.sp cells off, .i .i64 fr] [] (.f (.func 84) [] [.sp [.i .i64 fr] 0, .sp [.sp cells off] 0]) [] := by
  refine fn67.spec0 mixed noIt_ok ?_
  rw [ic67]
  refine ab_seq_k fun K1 h1 => ?_
  simp
  refine h1 _ _ _ ?_
  refine ab_seq_k fun K2 h2 => ?_
  simp
  refine h2 _ _ _ ?_
  simp
  exact fin_of 3 (by simp [rs67, hy])

end Go.Ab
