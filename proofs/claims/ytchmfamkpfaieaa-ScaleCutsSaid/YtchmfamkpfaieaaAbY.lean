/- The abstract layer, part 25: control run by evaluation, calls too; whatever it answers is a contract. -/
import Derived.Test.YtchmfamkpfaieaaAbX
set_option linter.unusedVariables false
set_option linter.unusedSimpArgs false
namespace Go.Ab
open Go

abbrev Cl := FuncId → List V → List O → Option (V × List O)
/-- What a function yields, and what of the heap it looks at. -/
abbrev Oi := FuncId → List V → List V → List O → Option (List (List V) × (List O → Bool))

/-! ### Equality of values, by reckoning (some are never said to be equal) -/
mutual
def eqV : V → V → Bool
  | .u, .u => true
  | .b x, .b y => x == y
  | .i k n, .i k' n' => decide (k = k') && decide (n = n')
  | .np, .np => true
  | .p a b c, .p a' b' c' => a == a' && b == b' && c == c'
  | .s a b c d e, .s a' b' c' d' e' => a == a' && b == b' && c == c' && d == d' && e == e'
  | .ss cs n f, .ss cs' n' f' => eqL cs cs' && n == n' && f == f'
  | .sp cs n, .sp cs' n' => eqL cs cs' && n == n'
  | .nm, .nm => true
  | .m a, .m a' => a == a'
  | .nf, .nf => true
  | .agg cs, .agg cs' => eqL cs cs'
  | .tup cs, .tup cs' => eqL cs cs'
  | _, _ => false
def eqL : List V → List V → Bool
  | [], [] => true
  | x :: r, y :: s => eqV x y && eqL r s
  | _, _ => false
end

mutual
theorem eqV_ok : ∀ {x y : V}, eqV x y = true → x = y
  | .u, y, h => by cases y <;> simp_all [eqV]
  | .b x, y, h => by cases y <;> simp_all [eqV]
  | .i k n, y, h => by cases y <;> simp_all [eqV]
  | .np, y, h => by cases y <;> simp_all [eqV]
  | .p a b c, y, h => by cases y <;> simp_all [eqV]
  | .s a b c d e, y, h => by cases y <;> simp_all [eqV]
  | .ss cs n f, y, h => by
    cases y <;> first | (simp [eqV] at h; done) | skip
    simp only [eqV, Bool.and_eq_true, beq_iff_eq] at h
    rw [eqL_ok h.1.1, h.1.2, h.2]
  | .sp cs n, y, h => by
    cases y <;> first | (simp [eqV] at h; done) | skip
    simp only [eqV, Bool.and_eq_true, beq_iff_eq] at h
    rw [eqL_ok h.1, h.2]
  | .nm, y, h => by cases y <;> simp_all [eqV]
  | .m a, y, h => by cases y <;> simp_all [eqV]
  | .nf, y, h => by cases y <;> simp_all [eqV]
  | .agg cs, y, h => by
    cases y <;> first | (simp [eqV] at h; done) | skip
    simp only [eqV] at h
    rw [eqL_ok h]
  | .tup cs, y, h => by
    cases y <;> first | (simp [eqV] at h; done) | skip
    simp only [eqV] at h
    rw [eqL_ok h]
  | .str s, y, h => by simp [eqV] at h
  | .sm s, y, h => by simp [eqV] at h
  | .f a b c, y, h => by simp [eqV] at h
theorem eqL_ok : ∀ {x y : List V}, eqL x y = true → x = y
  | [], y, h => by cases y <;> simp_all [eqL]
  | x :: r, y, h => by
    cases y <;> first | (simp [eqL] at h; done) | skip
    simp only [eqL, Bool.and_eq_true] at h
    rw [eqV_ok h.1, eqL_ok h.2]
end

/-! ### One operation or call -/
def gdX (g : Option (Nat × Bool)) (env : Env) (σ : List O) (run : Option (V × List O)) : Option (V × List O) :=
  match g with
  | none => run
  | some (t, want) => match get env t with
    | .b b => if b = want then run else some (.tup [], σ)
    | .tup [] => some (.tup [], σ)
    | _ => none

def valS (call : Cl) (s : IS) (env : Env) (σ : List O) : Option (V × List O) :=
  match s with
  | .op _ g io => gdX g env σ (evX (Od.ev (get env)) σ (fun v σ' => fV v fun v => some (v, σ')) io)
  | .call _ g f args => gdX g env σ (fL (args.map (Od.ev (get env))) fun as => call f as σ)
  | .callv _ g x args => gdX g env σ (match x.ev (get env) with
    | .f (.func f) first cap => fL (first ++ args.map (Od.ev (get env)) ++ cap) fun as => call f as σ
    | _ => none)

def ClOK (P : Program) (call : Cl) : Prop := ∀ f args σ v σ', call f args σ = some (v, σ') → FSpec P f args σ v σ'
def ClQuiet (call : Cl) : Prop := ∀ f args σ v σ', call f args σ = some (v, σ') → σ' = σ

section
variable {P : Program} {Y : Yield} {It : ItTy} {n0 : Nat} {call : Cl} {oi : Oi}

theorem gdX_sound {g : Option (Nat × Bool)} {md : Md} {env : Env} {σ σ' : List O} {run : Option (V × List O)} {Run : Prop} {dst : Option Nat} {K : Kt} {v : V} (h : gdX g env σ run = some (v, σ'))
    (hr : run = some (v, σ') → Run) (hk : K md (put env dst v) σ') : guarded g md env σ Run dst K := by
  unfold gdX at h
  split at h
  · exact hr h
  · split at h
    · rename_i b hb
      simp only [guarded, hb]
      split at h
      · rename_i hc; rw [if_pos hc]; exact hr h
      · rename_i hc; rw [if_neg hc]; cases h; exact hk
    · rename_i hb
      simp only [guarded, hb]
      cases h; exact hk
    · cases h

theorem valS_sound (hc : ClOK P call) {s : IS} {md : Md} {env : Env} {σ σ' : List O} {v : V} {K : Kt} (h : valS call s env σ = some (v, σ')) (hk : K md (put env s.dst v) σ') : abS P Y n0 s K md env σ := by
  cases s with
  | op dst g io =>
    refine gdX_sound h (fun h => ?_) hk
    refine evK_mono (fun v1 σ1 h1 => ?_) (evX_sound h)
    simp only [fV_eq, Option.some.injEq, Prod.mk.injEq] at h1
    obtain ⟨rfl, rfl⟩ := h1
    exact hk
  | call dst g f args =>
    refine gdX_sound h (fun h => ?_) hk
    simp only [fL_eq] at h
    exact ⟨v, σ', hc _ _ _ _ _ h, hk⟩
  | callv dst g x args =>
    refine gdX_sound h (fun h => ?_) hk
    split at h
    · rename_i hx
      simp only [fL_eq] at h
      simp only [callvK, hx]
      exact ⟨v, σ', hc _ _ _ _ _ h, hk⟩
    · cases h

theorem evX_quiet {g : Od → V} {σ σ' : List O} {k : V → Option V} {io : IOp} {v : V} (hl : io.loud = false) (h : evX g σ (fun v σ' => some (v, σ')) io = some (v, σ')) : σ' = σ := by
  have h1 := evX_sound h
  cases io <;> first | (simp [IOp.loud] at hl; done) | skip
  all_goals simp only [evK, ld1K, ldAK, nilcK, binK, eqvK, eqbK, slcK, slcB, slaK, fadK, ixaK, ixvK, ixsK, lenK, lenmK, lensK, extK, lkpK, lkpF, rngK, nxtK, entK] at h1
  case bsl frz _ _ _ _ =>
    simp only [IOp.loud, Bool.not_eq_false'] at hl
    subst hl
    split at h1
    · simp at h1; exact h1.2.symm
    · exact h1.elim
  case mx xs =>
    cases hx : xs.map g with
    | nil => rw [hx] at h1; exact h1.elim
    | cons a r =>
      rw [hx] at h1
      cases a <;> simp only [mxK] at h1
      split at h1
      · simp at h1; exact h1.2.symm
      · exact h1.elim
  case mn xs =>
    cases hx : xs.map g with
    | nil => rw [hx] at h1; exact h1.elim
    | cons a r =>
      rw [hx] at h1
      cases a <;> simp only [mxK] at h1
      split at h1
      · simp at h1; exact h1.2.symm
      · exact h1.elim
  all_goals (repeat' split at h1)
  all_goals first | exact h1.elim | skip
  all_goals (try simp only [Option.some.injEq, Prod.mk.injEq] at h1)
  all_goals
    first
    | exact h1.2.symm
    | exact h1.2.2.symm
    | exact h1.2.2.2.symm
    | exact h1.2.2.2.2.symm
    | exact h1.2.2.2.2.2.symm
    | exact h1.2.2.2.2.2.2.symm
    | exact h1.2.2.2.2.2.2.2.symm
    | exact h1.2.2.2.2.2.2.2.2.symm
    | exact h1.2.2.2.2.2.2.2.2.2.symm
    | (have h2 := h1.2; split at h2 <;> (simp only [Option.some.injEq, Prod.mk.injEq] at h2; exact h2.2.symm))
    | (have h2 := h1.2.2; split at h2 <;> (simp only [Option.some.injEq, Prod.mk.injEq] at h2; exact h2.2.2.symm))
    | (simp [evX] at h; done)
    | exact h1.2.2.elim
    | exact h1.2.elim

theorem valS_quiet (hq : ClQuiet call) {s : IS} {env : Env} {σ σ' : List O} {v : V} (h : valS call s env σ = some (v, σ')) (hl : s.loud = false) : σ' = σ := by
  have gd : ∀ {g : Option (Nat × Bool)} {run : Option (V × List O)}, gdX g env σ run = some (v, σ') → (run = some (v, σ') → σ' = σ) → σ' = σ := by
    intro g run h hr
    unfold gdX at h
    split at h
    · exact hr h
    · split at h
      · split at h
        · exact hr h
        · cases h; rfl
      · cases h; rfl
      · cases h
  cases s with
  | op dst g io =>
    refine gd h (fun h => ?_)
    simp only [fV_eq] at h
    exact evX_quiet (k := some) hl h
  | call dst g f args =>
    refine gd h (fun h => ?_)
    simp only [fL_eq] at h
    exact hq _ _ _ _ _ h
  | callv dst g x args =>
    refine gd h (fun h => ?_)
    split at h
    · simp only [fL_eq] at h
      exact hq _ _ _ _ _ h
    · cases h

/-! ### Regions -/
def runSs (call : Cl) : List IS → Env → List O → Option (Env × List O)
  | [], env, σ => some (env, σ)
  | s :: r, env, σ => match valS call s env σ with
    | some (v, σ') => fSp (put env s.dst v) fun env => runSs call r env σ'
    | none => none

theorem runSs_sound (hc : ClOK P call) {K : Kt} {md : Md} : ∀ {ss : List IS} {env env' : Env} {σ σ' : List O}, runSs call ss env σ = some (env', σ') → K md env' σ' → abSs P Y n0 ss K md env σ
  | [], env, env', σ, σ', h, hk => by
    simp only [runSs, Option.some.injEq, Prod.mk.injEq] at h
    obtain ⟨rfl, rfl⟩ := h
    exact hk
  | s :: r, env, env', σ, σ', h, hk => by
    simp only [runSs] at h
    split at h
    · rename_i v σ1 h1
      simp only [fSp_eq] at h
      exact valS_sound hc h1 (runSs_sound hc h hk)
    · cases h

def rechk (call : Cl) (j : Nat) (σ : List O) : List (IS × Env × V × List Nat) → Bool
  | [] => true
  | (s, env, v, us) :: r => (!us.contains j || (!s.loud && match valS call s env σ with
    | some (v', _) => s.dst.isNone || eqV v' v
    | none => false)) && rechk call j σ r

theorem rechk_sound (hc : ClOK P call) (hq : ClQuiet call) {j : Nat} {σ : List O} {md : Md} : ∀ {pend : List (IS × Env × V × List Nat)}, rechk call j σ pend = true → recheck P Y n0 j pend md σ
  | [], _ => trivial
  | (s, env, v, us) :: r, h => by
    simp only [rechk, Bool.and_eq_true, Bool.or_eq_true, Bool.not_eq_true'] at h
    refine ⟨?_, rechk_sound hc hq h.2⟩
    split
    · rename_i hu
      rcases h.1 with h1 | ⟨hl, h1⟩
      · rw [hu] at h1; cases h1
      · split at h1
        · rename_i v' σ' hv
          refine valS_sound hc hv ⟨rfl, ?_, valS_quiet hq hv hl⟩
          cases hd : s.dst with
          | none => rfl
          | some d =>
            rw [hd] at h1
            simp only [Option.isNone_some, Bool.or_eq_true] at h1
            rcases h1 with h1 | h1
            · cases h1
            · rw [eqV_ok h1]
        · cases h1
    · trivial

def runDs (call : Cl) : List (IS × List Nat) → Nat → List (IS × Env × V × List Nat) → Env → List O → Option (Env × List O)
  | [], _, _, env, σ => some (env, σ)
  | (s, us) :: r, j, pend, env, σ => match valS call s env σ with
    | some (v, σ') => if rechk call j σ' pend = true then
        fSp (put env s.dst v) fun env' => runDs call r (j + 1) (match us with | [] => pend | _ :: _ => (s, env, (match s.dst with | some _ => v | none => .u), us) :: pend) env' σ'
      else none
    | none => none

theorem runDs_sound (hc : ClOK P call) (hq : ClQuiet call) {K : Kt} {md : Md} : ∀ {ss : List (IS × List Nat)} {j : Nat} {pend : List (IS × Env × V × List Nat)} {env env' : Env} {σ σ' : List O}, runDs call ss j pend env σ = some (env', σ') → K md env' σ' → abDs P Y n0 ss j pend K md env σ
  | [], _, _, env, env', σ, σ', h, hk => by
    simp only [runDs, Option.some.injEq, Prod.mk.injEq] at h
    obtain ⟨rfl, rfl⟩ := h
    exact hk
  | (s, us) :: r, j, pend, env, env', σ, σ', h, hk => by
    simp only [runDs] at h
    split at h
    · rename_i v σ1 h1
      split at h
      · rename_i hr
        simp only [fSp_eq] at h
        simp only [abDs]
        refine valS_sound hc h1 ⟨rfl, fun hl => valS_quiet hq h1 hl, rechk_sound hc hq hr, ?_⟩
        refine runDs_sound hc hq (pend := _) ?_ hk
        rw [← h]
        congr 1
        cases us with
        | nil => rfl
        | cons u us =>
          simp only [List.isEmpty_cons, Bool.false_eq_true, if_false]
          cases hd : s.dst with
          | none => rfl
          | some d => simp only [get_put, if_true]
      · cases h
    · cases h

/-! ### Control -/
inductive Oc where
  | fall
  | exit (id : Nat)
  | ret

def OcK (E : List (Nat × Kt)) (K Rt : Kt) (md : Md) (env : Env) (σ : List O) : Oc → Prop
  | .fall => K md env σ
  | .exit id => exitK E id md env σ
  | .ret => Rt md env σ

def iterX (live : Option (List Nat)) (f : Env → List O → Option (Oc × Env × List O)) : Nat → Env → List O → Option (Oc × Env × List O)
  | 0, _, _ => none
  | n + 1, env, σ => match f env σ with
    | some (.fall, env', σ') => fSp (keepO env' live) fun env' => iterX live f n env' σ'
    | some (.exit id, env', σ') => if id = 0 ∧ False then none else some (.exit id, env', σ')
    | some (.ret, env', σ') => some (.ret, env', σ')
    | none => none

def roundsX (pre : List O → Bool) (f : List V → List O → Option (Oc × Env × List O)) : List (List V) → List O → Option (Oc × List O)
  | [], σ => if pre σ = true then some (.fall, σ) else none
  | x :: r, σ => if pre σ = true then (match f x σ with
    | some (.fall, _, σ') => roundsX pre f r σ'
    | some (.exit id, _, σ') => some (.exit id, σ')
    | some (.ret, _, σ') => some (.ret, σ')
    | none => none) else none
theorem roundsX_pre {pre : List O → Bool} {f : List V → List O → Option (Oc × Env × List O)} : ∀ {xs : List (List V)} {σ : List O} {r : Oc × List O}, roundsX pre f xs σ = some r → pre σ = true
  | [], σ, r, h => by
    simp only [roundsX] at h
    split at h
    · assumption
    · cases h
  | x :: xs, σ, r, h => by
    simp only [roundsX] at h
    split at h
    · assumption
    · cases h

def exC (call pc : Cl) (oi : Oi) (n : Nat) : IC → Env → List O → Option (Oc × Env × List O)
  | .skip, env, σ => some (.fall, env, σ)
  | .reg ops live, env, σ => match runSs call ops env σ with
    | some (env', σ') => fSp (keepO env' live) fun env' => some (.fall, env', σ')
    | none => none
  | .drw ops live, env, σ => match runDs pc ops 0 [] env σ with
    | some (env', σ') => fSp (keepO env' live) fun env' => some (.fall, env', σ')
    | none => none
  | .seq a b, env, σ => match exC call pc oi n a env σ with
    | some (.fall, env', σ') => exC call pc oi n b env' σ'
    | some (.exit id, env', σ') => some (.exit id, env', σ')
    | some (.ret, env', σ') => some (.ret, env', σ')
    | none => none
  | .cond c a b, env, σ => match c.ev (get env) with
    | .b t => if t = true then exC call pc oi n a env σ else exC call pc oi n b env σ
    | _ => none
  | .block id a, env, σ => match exC call pc oi n a env σ with
    | some (.fall, env', σ') => some (.fall, env', σ')
    | some (.exit id', env', σ') => if id = id' then some (.fall, env', σ') else some (.exit id', env', σ')
    | some (.ret, env', σ') => some (.ret, env', σ')
    | none => none
  | .loop live a, env, σ => iterX live (exC call pc oi n a) n (keepO env live) σ
  | .rfn g ps asg body, env, σ => match g.ev (get env) with
    | .f (.func f) first cap => match oi f first cap σ with
      | some (xs, pre) => match roundsX pre (fun x σ => if x.length = ps.length then (match exC call pc oi n asg (puts env ps x) σ with
            | some (.fall, env', σ') => exC call pc oi n body env' σ'
            | _ => none) else none) xs σ with
        | some (oc, σ') => some (oc, env, σ')
        | none => none
      | none => none
    | _ => none
  | .exit id, env, σ => some (.exit id, env, σ)
  | .ret, env, σ => some (.ret, env, σ)

theorem exC_sound (hc : ClOK P call) {pc : Cl} (hpc : ClOK P pc) (hq : ClQuiet pc) (hi : ∀ f a b σ xs pre, oi f a b σ = some (xs, pre) → It f a b xs (fun σ => pre σ = true)) {n : Nat} : ∀ {ic : IC} {Y : Yield} {n0 : Nat} {K Rt : Kt} {E : List (Nat × Kt)} {md : Md} {env env' : Env} {σ σ' : List O} {oc : Oc},
    exC call pc oi n ic env σ = some (oc, env', σ') → OcK E K Rt md env' σ' oc → ab P Y It n0 ic K E Rt md env σ := by
  intro ic
  induction ic with
  | skip =>
    intro Y n0 K Rt E md env env' σ σ' oc h hk
    simp only [exC, Option.some.injEq, Prod.mk.injEq] at h
    obtain ⟨rfl, rfl, rfl⟩ := h
    exact hk
  | reg ops live =>
    intro Y n0 K Rt E md env env' σ σ' oc h hk
    simp only [exC] at h
    split at h
    · rename_i e1 σ1 h1
      simp only [fSp_eq, Option.some.injEq, Prod.mk.injEq] at h
      obtain ⟨rfl, rfl, rfl⟩ := h
      exact runSs_sound hc h1 hk
    · cases h
  | drw ops live =>
    intro Y n0 K Rt E md env env' σ σ' oc h hk
    simp only [exC] at h
    split at h
    · rename_i e1 σ1 h1
      simp only [fSp_eq, Option.some.injEq, Prod.mk.injEq] at h
      obtain ⟨rfl, rfl, rfl⟩ := h
      exact runDs_sound hpc hq h1 hk
    · cases h
  | seq a b iha ihb =>
    intro Y n0 K Rt E md env env' σ σ' oc h hk
    simp only [exC] at h
    split at h
    · rename_i e1 σ1 h1
      exact iha (oc := .fall) h1 (ihb h hk)
    · rename_i id e1 σ1 h1
      simp only [Option.some.injEq, Prod.mk.injEq] at h
      obtain ⟨rfl, rfl, rfl⟩ := h
      exact iha (oc := .exit id) h1 hk
    · rename_i e1 σ1 h1
      simp only [Option.some.injEq, Prod.mk.injEq] at h
      obtain ⟨rfl, rfl, rfl⟩ := h
      exact iha (oc := .ret) h1 hk
    · cases h
  | cond c a b iha ihb =>
    intro Y n0 K Rt E md env env' σ σ' oc h hk
    simp only [exC] at h
    split at h
    · rename_i t ht
      simp only [ab, ht]
      split at h
      · rename_i hc; rw [if_pos hc]; exact iha h hk
      · rename_i hc; rw [if_neg hc]; exact ihb h hk
    · cases h
  | block id a iha =>
    intro Y n0 K Rt E md env env' σ σ' oc h hk
    simp only [exC] at h
    split at h
    · rename_i e1 σ1 h1
      simp only [Option.some.injEq, Prod.mk.injEq] at h
      obtain ⟨rfl, rfl, rfl⟩ := h
      exact iha (oc := .fall) h1 hk
    · rename_i id' e1 σ1 h1
      split at h
      · rename_i he
        simp only [Option.some.injEq, Prod.mk.injEq] at h
        obtain ⟨rfl, rfl, rfl⟩ := h
        exact iha (oc := .exit id') h1 (by simp only [OcK, exitK, if_pos he]; exact hk)
      · rename_i he
        simp only [Option.some.injEq, Prod.mk.injEq] at h
        obtain ⟨rfl, rfl, rfl⟩ := h
        exact iha (oc := .exit id') h1 (by simp only [OcK, exitK, if_neg he]; exact hk)
    · rename_i e1 σ1 h1
      simp only [Option.some.injEq, Prod.mk.injEq] at h
      obtain ⟨rfl, rfl, rfl⟩ := h
      exact iha (oc := .ret) h1 hk
    · cases h
  | loop live a iha =>
    intro Y n0 K Rt E md env env' σ σ' oc h hk
    simp only [exC] at h
    refine ⟨fun m e s => iterX live (exC call pc oi n a) m e s = some (oc, env', σ'), ⟨n, h⟩, ?_⟩
    intro m e s hm
    cases m with
    | zero => cases hm
    | succ m =>
      simp only [iterX] at hm
      split at hm
      · rename_i e1 σ1 h1
        simp only [fSp_eq] at hm
        exact iha (oc := .fall) h1 ⟨rfl, m, Nat.lt_succ_self m, .inl hm⟩
      · rename_i id e1 σ1 h1
        simp only [and_false, if_false, Option.some.injEq, Prod.mk.injEq] at hm
        obtain ⟨rfl, rfl, rfl⟩ := hm
        exact iha (oc := .exit id) h1 hk
      · rename_i e1 σ1 h1
        simp only [Option.some.injEq, Prod.mk.injEq] at hm
        obtain ⟨rfl, rfl, rfl⟩ := hm
        exact iha (oc := .ret) h1 hk
      · cases hm
  | rfn g ps asg body iha ihb =>
    intro Y n0 K Rt E md env env' σ σ' oc h hk
    simp only [exC] at h
    split at h
    · rename_i f first cap hg
      split at h
      · rename_i xs pre hxs
        split at h
        · rename_i oc1 σ1 h1
          simp only [Option.some.injEq, Prod.mk.injEq] at h
          obtain ⟨rfl, rfl, rfl⟩ := h
          simp only [ab, hg]
          refine ⟨xs, _, hi _ _ _ _ _ _ hxs, fun i s => roundsX pre (fun x σ => if x.length = ps.length then (match exC call pc oi n asg (puts env ps x) σ with
            | some (.fall, env', σ') => exC call pc oi n body env' σ'
            | _ => none) else none) (xs.drop i) s = some (oc1, σ1), fun i s hs => roundsX_pre hs, by simpa using h1, ?_, ?_⟩
          · intro i x s hx hJ
            have hlt := (List.getElem?_eq_some_iff.1 hx).1
            have hd : xs.drop i = x :: xs.drop (i + 1) := by
              rw [List.drop_eq_getElem_cons hlt]
              rw [List.getElem?_eq_getElem hlt] at hx
              rw [Option.some.inj hx]
            rw [hd] at hJ
            have hpre := roundsX_pre hJ
            simp only [roundsX, hpre, if_true] at hJ
            by_cases hl : x.length = ps.length
            · refine ⟨hl, ?_⟩
              simp only [hl, if_true] at hJ
              cases ha : exC call pc oi n asg (puts env ps x) s with
              | none => rw [ha] at hJ; cases hJ
              | some r =>
                obtain ⟨oa, ea, sa⟩ := r
                rw [ha] at hJ
                cases oa with
                | fall =>
                  simp only at hJ
                  refine iha (oc := .fall) ha ?_
                  cases hb : exC call pc oi n body ea sa with
                  | none => rw [hb] at hJ; cases hJ
                  | some r =>
                    obtain ⟨ob, eb, sb⟩ := r
                    rw [hb] at hJ
                    refine ihb hb ?_
                    cases ob with
                    | fall => exact ⟨rfl, .inl hJ⟩
                    | exit id =>
                      simp only [Option.some.injEq, Prod.mk.injEq] at hJ
                      obtain ⟨rfl, rfl⟩ := hJ
                      show exitK (constE env E) id _ _ _; rw [exitK_const]; exact hk
                    | ret =>
                      simp only [Option.some.injEq, Prod.mk.injEq] at hJ
                      obtain ⟨rfl, rfl⟩ := hJ
                      exact hk
                | exit id => cases hJ
                | ret => cases hJ
            · simp only [hl, if_false] at hJ
              cases hJ
          · intro s hJ
            rw [List.drop_length] at hJ
            have hpre := roundsX_pre hJ
            simp only [roundsX, hpre, if_true, Option.some.injEq, Prod.mk.injEq] at hJ
            obtain ⟨rfl, rfl⟩ := hJ
            exact hk
        · cases h
      · cases h
    · cases h
  | exit id =>
    intro Y n0 K Rt E md env env' σ σ' oc h hk
    simp only [exC, Option.some.injEq, Prod.mk.injEq] at h
    obtain ⟨rfl, rfl, rfl⟩ := h
    exact hk
  | ret =>
    intro Y n0 K Rt E md env env' σ σ' oc h hk
    simp only [exC, Option.some.injEq, Prod.mk.injEq] at h
    obtain ⟨rfl, rfl, rfl⟩ := h
    exact hk

/-! ### Results -/
def resX : List IRes → Env → List O → Option (List V)
  | [], _, _ => some []
  | .tmp t :: r, env, σ => (resX r env σ).map (get env t :: ·)
  | .one t :: r, env, σ => ld1X (get env t) σ fun v => (resX r env σ).map (v :: ·)
  | .many n t :: r, env, σ => ldAX n (get env t) σ fun v => (resX r env σ).map (v :: ·)

theorem ld1K_mono {a : V} {σ : List O} {K K' : V → Prop} (h : ld1K a σ K) (hk : ∀ v, K v → K' v) : ld1K a σ K' :=
  evK_mono (g := Od.ev fun _ => a) (σ := σ) (K := fun v _ => K v) (K' := fun v _ => K' v) (fun v _ => hk v) (io := .load1 (.t 0)) h
theorem ldAK_mono {n : Nat} {a : V} {σ : List O} {K K' : V → Prop} (h : ldAK n a σ K) (hk : ∀ v, K v → K' v) : ldAK n a σ K' :=
  evK_mono (g := Od.ev fun _ => a) (σ := σ) (K := fun v _ => K v) (K' := fun v _ => K' v) (fun v _ => hk v) (io := .loadA n (.t 0)) h

theorem resX_sound {env : Env} {σ : List O} : ∀ {rs : List IRes} {vs : List V} {K : List V → Prop}, resX rs env σ = some vs → K vs → resK rs env σ K
  | [], vs, K, h, hk => by
    simp only [resX, Option.some.injEq] at h
    subst h
    exact hk
  | .tmp t :: r, vs, K, h, hk => by
    simp only [resX, Option.map_eq_some_iff] at h
    obtain ⟨ws, h1, rfl⟩ := h
    exact resX_sound (K := fun vs => K (get env t :: vs)) h1 hk
  | .one t :: r, vs, K, h, hk => by
    refine ld1K_mono (ld1X_sound h) (fun v hv => ?_)
    simp only [Option.map_eq_some_iff] at hv
    obtain ⟨ws, h1, rfl⟩ := hv
    exact resX_sound (K := fun vs => K (v :: vs)) h1 hk
  | .many n t :: r, vs, K, h, hk => by
    refine ldAK_mono (ldAX_sound h) (fun v hv => ?_)
    simp only [Option.map_eq_some_iff] at hv
    obtain ⟨ws, h1, rfl⟩ := hv
    exact resX_sound (K := fun vs => K (v :: vs)) h1 hk

/-! ### Functions -/
structure Ft where
  ic : IC
  rs : List IRes
  mode : Nat

/-- The body, run: what its results are, and the heap. -/
def bodyX (call pc : Cl) (oi : Oi) (n : Nat) (t : Ft) (args : List V) (σ : List O) : Option (V × List O) :=
  match exC call pc oi n t.ic (entry 0 args) σ with
  | some (.fall, env, σe) => (resX t.rs env σe).map fun vs => (retV vs, σe)
  | some (.ret, env, σe) => (resX t.rs env σe).map fun vs => (retV vs, σe)
  | _ => none

/-- How deep is frozen. -/
def D : Nat := 24

/-- Run at the empty heap. -/
def coreX (T : FuncId → Option Ft) (orc : FuncId → List V → Option V) (oi : Oi) (n : Nat) (c pc : Cl) (f : FuncId) (args : List V) : Option V :=
  match orc f args with
  | some v => some v
  | none => match T f with
    | some t => match bodyX c pc oi n t args [] with
      | some (v, σe) => fV (frz D 0 σe v) some
      | none => none
    | none => none

def quietX (T : FuncId → Option Ft) (orc : FuncId → List V → Option V) (oi : Oi) (n : Nat) (c pc : Cl) : Cl := fun f args σ =>
  if pureL args = true then
    match coreX T orc oi n c pc f args with
    | some v => if v.pure = true then some (v, σ) else none
    | none => none
  else fL (args.map (frz D 0 σ)) fun args =>
    match coreX T orc oi n c pc f args with
    | some v => if v.flat = true then some (v, σ) else none
    | none => none

def fullX (T : FuncId → Option Ft) (orc : FuncId → List V → Option V) (oi : Oi) (n : Nat) (c pc : Cl) : Cl := fun f args σ =>
  match T f with
  | some t => match t.mode with
    | 0 => quietX T orc oi n c pc f args σ
    | 1 => match bodyX c pc oi n t args σ with
      | some (v, σe) => if σ.length ≤ σe.length then fV (frz D σ.length σe v) fun v => fSp (frzS D σ.length σe) fun σ' => some (v, σ') else none
      | none => none
    | _ => bodyX c pc oi n t args σ
  | none => quietX T orc oi n c pc f args σ

def callsX (T : FuncId → Option Ft) (orc : FuncId → List V → Option V) (oi : Oi) (n : Nat) : Nat → Cl × Cl
  | 0 => (fun _ _ _ => none, fun _ _ _ => none)
  | m + 1 => (fullX T orc oi n (callsX T orc oi n m).1 (callsX T orc oi n m).2, quietX T orc oi n (callsX T orc oi n m).1 (callsX T orc oi n m).2)

def TOK (P : Program) (T : FuncId → Option Ft) : Prop := ∀ f t, T f = some t → ∃ fn ex, Fn_ P f fn ex t.ic t.rs
def OrcOK (P : Program) (orc : FuncId → List V → Option V) : Prop := ∀ f args v, orc f args = some v → FSpec P f args [] v []

variable {T : FuncId → Option Ft} {orc : FuncId → List V → Option V} {n : Nat} {pc : Cl}

theorem bodyX_sound (hm : P.follows .mixedOrders = true) (hIt : ItOK P It) (hc : ClOK P call) (hpc : ClOK P pc) (hq : ClQuiet pc) (hi : ∀ f a b σ xs pre, oi f a b σ = some (xs, pre) → It f a b xs (fun σ => pre σ = true))
    {f : FuncId} {fn : Func} {ex : List Nat} {t : Ft} (hf : Fn_ P f fn ex t.ic t.rs) {args : List V} {σ σ' σe : List O} {v v' : V} (h : bodyX call pc oi n t args σ = some (v, σe))
    (hv : (∃ k m, σ.length ≤ m ∧ m ≤ σe.length ∧ frz k m σe v = v' ∧ frzS k m σe = σ') ∨ (v = v' ∧ σ' = σe)) : FSpec P f args σ v' σ' := by
  have fin : ∀ {env : Env} {σ1 : List O} {md : Md}, ((resX t.rs env σ1).map fun vs => (retV vs, σ1)) = some (v, σe) → finK t.rs σ v' σ' md env σ1 := by
    intro env σ1 md hr
    simp only [Option.map_eq_some_iff, Prod.mk.injEq] at hr
    obtain ⟨vs, h1, rfl, rfl⟩ := hr
    refine resX_sound h1 ?_
    rcases hv with ⟨k, m, a1, a2, a3, a4⟩ | ⟨a1, a2⟩
    · exact .inl ⟨k, m, a1, a2, a3, .inl a4⟩
    · exact .inr ⟨a1, a2⟩
  refine hf.spec hm hIt ?_
  simp only [bodyX] at h
  split at h
  · rename_i env σ1 h1
    exact exC_sound hc hpc hq hi h1 (fin (md := some 0) h)
  · rename_i env σ1 h1
    exact exC_sound hc hpc hq hi h1 (fin (md := some 0) h)
  · cases h

theorem coreX_sound (hT : TOK P T) (ho : OrcOK P orc) (hm : P.follows .mixedOrders = true) (hIt : ItOK P It) (hc : ClOK P call) (hpc : ClOK P pc) (hq : ClQuiet pc) (hi : ∀ f a b σ xs pre, oi f a b σ = some (xs, pre) → It f a b xs (fun σ => pre σ = true))
    {f : FuncId} {args : List V} {v : V} (h : coreX T orc oi n call pc f args = some v) : FSpec P f args [] v [] := by
  simp only [coreX] at h
  split at h
  · rename_i h1; cases h; exact ho _ _ _ h1
  · split at h
    · rename_i t h1
      split at h
      · rename_i v1 σe h2
        simp only [fV_eq, Option.some.injEq] at h
        obtain ⟨fn, ex, hf⟩ := hT _ _ h1
        exact bodyX_sound hm hIt hc hpc hq hi hf h2 (.inl ⟨D, 0, Nat.zero_le _, Nat.zero_le _, h, by simp [frzS]⟩)
      · cases h
    · cases h

theorem quietX_sound (hT : TOK P T) (ho : OrcOK P orc) (hm : P.follows .mixedOrders = true) (hIt : ItOK P It) (hc : ClOK P call) (hpc : ClOK P pc) (hq : ClQuiet pc) (hi : ∀ f a b σ xs pre, oi f a b σ = some (xs, pre) → It f a b xs (fun σ => pre σ = true)) :
    ClOK P (quietX T orc oi n call pc) ∧ ClQuiet (quietX T orc oi n call pc) := by
  have key : ∀ f args σ v σ', quietX T orc oi n call pc f args σ = some (v, σ') → FSpec P f args σ v σ' ∧ σ' = σ := by
    intro f args σ v σ' h
    simp only [quietX] at h
    split at h
    · rename_i hp
      split at h
      · rename_i v1 h1
        split at h
        · rename_i hv
          simp only [Option.some.injEq, Prod.mk.injEq] at h
          obtain ⟨rfl, rfl⟩ := h
          exact ⟨FSpec.frame (coreX_sound hT ho hm hIt hc hpc hq hi h1) hp hv, rfl⟩
        · cases h
      · cases h
    · simp only [fL_eq] at h
      split at h
      · rename_i v1 h1
        split at h
        · rename_i hv
          simp only [Option.some.injEq, Prod.mk.injEq] at h
          obtain ⟨rfl, rfl⟩ := h
          exact ⟨FSpec.frozen D (coreX_sound hT ho hm hIt hc hpc hq hi h1) hv, rfl⟩
        · cases h
      · cases h
  exact ⟨fun f args σ v σ' h => (key f args σ v σ' h).1, fun f args σ v σ' h => (key f args σ v σ' h).2⟩

theorem fullX_sound (hT : TOK P T) (ho : OrcOK P orc) (hm : P.follows .mixedOrders = true) (hIt : ItOK P It) (hc : ClOK P call) (hpc : ClOK P pc) (hq : ClQuiet pc) (hi : ∀ f a b σ xs pre, oi f a b σ = some (xs, pre) → It f a b xs (fun σ => pre σ = true)) :
    ClOK P (fullX T orc oi n call pc) := by
  intro f args σ v σ' h
  have hQ := (quietX_sound (n := n) hT ho hm hIt hc hpc hq hi).1
  simp only [fullX] at h
  split at h
  · rename_i t ht
    obtain ⟨fn, ex, hf⟩ := hT _ _ ht
    split at h
    · exact hQ _ _ _ _ _ h
    · split at h
      · rename_i v1 σe h1
        split at h
        · rename_i hl
          simp only [fV_eq, fSp_eq, Option.some.injEq, Prod.mk.injEq] at h
          exact bodyX_sound hm hIt hc hpc hq hi hf h1 (.inl ⟨D, σ.length, Nat.le_refl _, hl, h.1, h.2⟩)
        · cases h
      · cases h
    · exact bodyX_sound hm hIt hc hpc hq hi hf h (.inr ⟨rfl, rfl⟩)
  · exact hQ _ _ _ _ _ h

theorem callsX_sound (hT : TOK P T) (ho : OrcOK P orc) (hm : P.follows .mixedOrders = true) (hIt : ItOK P It) (hi : ∀ f a b σ xs pre, oi f a b σ = some (xs, pre) → It f a b xs (fun σ => pre σ = true)) : ∀ {m : Nat},
    ClOK P (callsX T orc oi n m).1 ∧ ClOK P (callsX T orc oi n m).2 ∧ ClQuiet (callsX T orc oi n m).2
  | 0 => ⟨fun _ _ _ _ _ h => (by cases h), fun _ _ _ _ _ h => (by cases h), fun _ _ _ _ _ h => (by cases h)⟩
  | m + 1 => by
    obtain ⟨h1, h2, h3⟩ := callsX_sound hT ho hm hIt hi (m := m)
    obtain ⟨q1, q2⟩ := quietX_sound (n := n) hT ho hm hIt h1 h2 h3 hi
    exact ⟨fullX_sound hT ho hm hIt h1 h2 h3 hi, q1, q2⟩

end
/-! ### Tables -/
inductive Tr where
  | leaf
  | node (l : Tr) (k : Nat) (t : Ft) (r : Tr)
def Tr.get : Tr → Nat → Option Ft
  | .leaf, _ => none
  | .node l k t r, f => match Nat.beq f k with
    | true => some t
    | false => match Nat.blt f k with
      | true => l.get f
      | false => r.get f
def Tr.All (p : Nat → Ft → Prop) : Tr → Prop
  | .leaf => True
  | .node l k t r => l.All p ∧ p k t ∧ r.All p
theorem Tr.get_all {p : Nat → Ft → Prop} : ∀ {tr : Tr} {f : Nat} {t : Ft}, tr.All p → tr.get f = some t → p f t
  | .leaf, _, _, _, h => by cases h
  | .node l k t r, f, t', ha, h => by
    simp only [Tr.get] at h
    split at h
    · rename_i hb
      have := Nat.eq_of_beq_eq_true hb
      subst this
      cases h
      exact ha.2.1
    · split at h
      · exact Tr.get_all ha.1 h
      · exact Tr.get_all ha.2.2 h
theorem Tr.ok {P : Program} {tr : Tr} (h : tr.All fun f t => ∃ fn ex, Fn_ P f fn ex t.ic t.rs) : TOK P tr.get := fun f t ht => Tr.get_all h ht

theorem run_sound {P : Program} {T : FuncId → Option Ft} {orc : FuncId → List V → Option V} {oi : Oi} {n : Nat} {It : ItTy} (hT : TOK P T) (ho : OrcOK P orc) (hm : P.follows .mixedOrders = true) (hIt : ItOK P It)
    (hi : ∀ f a b σ xs pre, oi f a b σ = some (xs, pre) → It f a b xs (fun σ => pre σ = true)) {m : Nat} {f : FuncId} {args : List V} {σ σ' : List O} {v : V} (h : (callsX T orc oi n m).1 f args σ = some (v, σ')) : FSpec P f args σ v σ' :=
  (callsX_sound hT ho hm hIt hi).1 _ _ _ _ _ h

/-! ### Reading lists -/
def intsV : List V → Option (List Int)
  | [] => some []
  | .i .i64 n :: r => match intsV r with
    | some l => fI n fun n => some (n :: l)
    | none => none
  | _ => none
theorem intsV_ok : ∀ {l : List V} {t : List Int}, intsV l = some t → l = t.map (V.i .i64)
  | [], t, h => by simp only [intsV, Option.some.injEq] at h; subst h; rfl
  | x :: r, t, h => by
    unfold intsV at h
    split at h
    · cases h; simp_all
    · rename_i n r' he
      cases he
      split at h
      · rename_i l hl
        simp only [fI_eq, Option.some.injEq] at h
        subst h
        rw [intsV_ok hl]; rfl
      · cases h
    · cases h

end Go.Ab
