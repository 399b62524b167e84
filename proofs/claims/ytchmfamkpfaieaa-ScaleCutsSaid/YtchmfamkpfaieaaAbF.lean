/- The abstract layer, part 15: operations and text-ordered regions of the code do what the abstract machine does. -/
import Derived.Test.YtchmfamkpfaieaaAbE
set_option linter.unusedVariables false
set_option linter.unusedSimpArgs false
namespace Go.Ab
open Go

/-- The fences that are met: everything is let in; a plain frame, or a round's. -/
def FOK (F : Fence) : Prop := F = Fence.wide ∨ ∃ l, F = Fence.wide.inRound l

theorem FOK.fn {F : Fence} (h : FOK F) (f : FuncId) : F.fn f := by
  rcases h with rfl | ⟨l, rfl⟩ <;> trivial
theorem FOK.depth {F : Fence} (h : FOK F) : F.depth = none := by
  rcases h with rfl | ⟨l, rfl⟩ <;> rfl
theorem FOK.calls {F : Fence} (h : FOK F) {P : Program} {f : FuncId} {args : Array Value} {w : World} {Rr : Ending → World → Prop} (hc : CallsIn Fence.wide 0 P f args w Rr) : CallsIn F 0 P f args w Rr := by
  rcases h with rfl | ⟨l, rfl⟩
  · exact hc
  · exact hc.inRound l
theorem FOK.semAt {F : Fence} (h : FOK F) (ρ : Operand → Value) (o : Oper) (hd : ∀ c, o.op ≠ .defer c) : Oper.semAt F.round ρ o = execOp ρ o := by
  rcases h with rfl | ⟨l, rfl⟩
  · exact Oper.semAt_none ρ o
  · exact Oper.semAt_some l ρ o hd
theorem FOK.inRound {F : Fence} (h : FOK F) (l : Nat) : FOK (F.inRound l) := by
  rcases h with rfl | ⟨l', rfl⟩
  · exact .inr ⟨l, rfl⟩
  · exact .inr ⟨l, rfl⟩

/-- What is carried along: outlives every step of the abstract machine. -/
structure InvOK (n0 : Nat) (Inv : Md → Cx → List Deferred → Prop) : Prop where
  ext : ∀ {md C C' D}, Inv md C D → Wf C → Ext C C' → Inv md C' D
  trunc : ∀ {md C D n}, Inv md C D → Wf C → n0 ≤ n → Inv md (C.trunc n) D
  le : ∀ {md C D}, Inv md C D → n0 ≤ C.vs.length

def YOK (P : Program) (F : Fence) (Inv : Md → Cx → List Deferred → Prop) (Y : Yield) : Prop :=
  ∀ (l : Nat) (args : List V) (σ : List O) (Kont : Md → V → List O → Prop) (C : Cx) (D : List Deferred) (cargs : List Value), Inv none C D → R C σ → VRl C args cargs → Y l args σ Kont →
    ∃ fn tmps asg body w', (Instr.yield l cargs.toArray).run P C.w = .ok (.round l fn tmps asg body) w' ∧
      RoundIn F 0 P l fn tmps asg body w' (fun e w'' => ∃ md' C' b σ', C'.w = w'' ∧ e = .returned (.bool b) ∧ R C' σ' ∧ (∀ v c, VR C v c → VR C' v c) ∧ Inv md' C' D ∧ Kont md' (.b b) σ')

theorem noY_ok {P : Program} {F : Fence} {Inv : Md → Cx → List Deferred → Prop} : YOK P F Inv noY := fun _ _ _ _ _ _ _ _ _ _ h => h.elim

def Lift (Inv : Md → Cx → List Deferred → Prop) (N : Nat) (K : Kt) (a : Act) (w : World) : Prop :=
  ∃ C md env σ, C.w = w ∧ R C σ ∧ Inv md C a.defers ∧ N ≤ a.tmps.size ∧ (∀ t, VR C (get env t) (a.tmps.getD t undef)) ∧ K md env σ

theorem Lift.mono {Inv : Md → Cx → List Deferred → Prop} {N : Nat} {K K' : Kt} {a : Act} {w : World} (h : Lift Inv N K a w) (hk : ∀ md env σ, K md env σ → K' md env σ) : Lift Inv N K' a w := by
  obtain ⟨C, md, env, σ, h1, h2, h3, h4, h5, h6⟩ := h
  exact ⟨C, md, env, σ, h1, h2, h3, h4, h5, hk _ _ _ h6⟩

section
variable {P : Program} {F : Fence} {n0 N : Nat} {Inv : Md → Cx → List Deferred → Prop} {Y : Yield}

theorem env_put {C : Cx} {env : Env} {a : Act} {dst : Option Nat} {v : V} {cv : Value} (he : ∀ t, VR C (get env t) (a.tmps.getD t undef)) (hN : N ≤ a.tmps.size) (hd : dstOK N dst = true) (hv : VR C v cv) :
    ∀ t, VR C (get (put env dst v) t) ((a.put dst cv).tmps.getD t undef) := by
  intro t
  cases dst with
  | none => exact he t
  | some d =>
    simp only [dstOK, decide_eq_true_eq] at hd
    rw [get_put]
    show VR C _ ((a.tmps.setIfInBounds d cv).getD t undef)
    split
    · rename_i hE; subst hE
      have : (a.tmps.setIfInBounds d cv).getD d undef = cv := by
        have hlt : d < a.tmps.size := by omega
        simp [Array.getD, hlt]
      rw [this]; exact hv
    · rename_i hE
      have : (a.tmps.setIfInBounds d cv).getD t undef = a.tmps.getD t undef := by
        simp only [Array.getD_eq_getD_getElem?]
        rw [Array.getElem?_setIfInBounds_ne (by omega)]
      rw [this]; exact he t

theorem size_put {a : Act} {dst : Option Nat} {cv : Value} : (a.put dst cv).tmps.size = a.tmps.size := by
  cases dst <;> simp [Act.put]
theorem defers_put {a : Act} {dst : Option Nat} {cv : Value} : (a.put dst cv).defers = a.defers := by
  cases dst <;> rfl

theorem env_keep {C : Cx} {env : Env} {a : Act} (he : ∀ t, VR C (get env t) (a.tmps.getD t undef)) (live : Option (List Nat)) : ∀ t, VR C (get (keepO env live) t) (a.tmps.getD t undef) := by
  intro t
  cases live with
  | none => exact he t
  | some l =>
    simp only [keepO, get_keep]
    split
    · exact he t
    · exact .u _

theorem env_frz {C : Cx} {σ : List O} (h : R C σ) {env : Env} {a : Act} (he : ∀ t, VR C (get env t) (a.tmps.getD t undef)) (k n : Nat) : ∀ t, VR (C.trunc n) (get (frzE k n σ env) t) (a.tmps.getD t undef) := by
  intro t
  rcases get_frzE (k := k) (n := n) (σ := σ) (e := env) (t := t) with h1 | h1
  · rw [h1]; exact .u _
  · rw [h1]; exact frz_sound h k (he t)

theorem trOp_not_defer {frz : Bool} {o : Oper} {io : IOp} (h : trOp P frz o = some io) : ∀ c, o.op ≠ .defer c := by
  intro c hc
  simp [trOp, hc] at h

/-- What a guard lets. -/
theorem guard_sound {ops : Array Oper} {o : Oper} {g : Option (Nat × Bool)} (hg : trG ops o.guard = some g) {C : Cx} {env : Env} {a : Act} (he : ∀ t, VR C (get env t) (a.tmps.getD t undef))
    {md : Md} {σ : List O} {run : Prop} {dst : Option Nat} {K : Kt} (hk : guarded g md env σ run dst K) :
    (Region.wanted o (yielded ops a.tmps) = true ∧ run) ∨ (Region.wanted o (yielded ops a.tmps) = false ∧ K md (put env dst (.tup [])) σ) := by
  cases hog : o.guard with
  | none =>
    rw [hog] at hg
    cases hg
    exact .inl ⟨by simp [Region.wanted, hog], hk⟩
  | some jw =>
    obtain ⟨j, want⟩ := jw
    rw [hog] at hg
    simp only [trG] at hg
    split at hg
    · rename_i t ht
      cases hg
      simp only [guarded] at hk
      split at hk
      · rename_i b hb
        have hv := he t
        rw [hb] at hv
        have hv' := bool_inv hv
        have hy : yielded ops a.tmps j = some b := by
          have h3 : a.tmps[t]? = some (.bool b) := by
            by_cases hlt : t < a.tmps.size
            · simp only [Array.getD, hlt, dite_true] at hv'
              rw [Array.getElem?_eq_getElem hlt]
              exact congrArg some hv'
            · simp only [Array.getD, hlt, dite_false] at hv'
              cases hv'
          simp [yielded, ht, h3]
        by_cases hbw : b = want
        · rw [if_pos hbw] at hk
          exact .inl ⟨by simp [Region.wanted, hog, hy, hbw], hk⟩
        · rw [if_neg hbw] at hk
          refine .inr ⟨?_, hk⟩
          simp only [Region.wanted, hog, hy]
          simpa using hbw
      · rename_i hb
        have hv := he t
        rw [hb] at hv
        have hy : yielded ops a.tmps j = none := by
          simp only [yielded, ht, Option.bind_some]
          generalize hx : a.tmps[t]? = x
          cases x with
          | none => rfl
          | some c =>
            rw [Array.getD_eq_getD_getElem?, hx] at hv
            simp only [Option.getD_some] at hv
            cases hv with
            | tup _ cs hl _ => rfl
        exact .inr ⟨by simp [Region.wanted, hog, hy], hk⟩
      · exact hk.elim
    · cases hg

theorem callFunc_run {f : FuncId} {fn : Func} (hf : P.funcs[f]? = some fn) (hn : fn.name ≠ "runtime.NumGoroutine") (hb : fn.body.isSome = true) (args : Array Value) (w : World) : (callFunc f args).run P w = .ok (.enter f args) w := by
  obtain ⟨b, hb'⟩ := Option.isSome_iff_exists.1 hb
  simp [callFunc, hf, hn, hb']

/-- A call of a function of which a contract is known. -/
theorem enter_sound {f : FuncId} {args : List V} {σ : List O} {K : V → List O → Prop} (hF : FOK F) {C : Cx} (h : R C σ) {cargs : List Value} (ha : VRl C args cargs) (hk : callK P f args σ K) :
    (callFunc f cargs.toArray).run P C.w = .ok (.enter f cargs.toArray) C.w ∧
    CallsIn F 0 P f cargs.toArray C.w (fun e w' => ∃ C' cv v σ', C'.w = w' ∧ e = .returned cv ∧ R C' σ' ∧ Ext C C' ∧ VR C' v cv ∧ K v σ') := by
  obtain ⟨v, σ', ⟨⟨fn, hf, hn, hb⟩, hs⟩, hk⟩ := hk
  refine ⟨callFunc_run hf hn hb _ _, hF.calls ((hs C cargs h ha).mono ?_)⟩
  rintro e w' ⟨C', cv, h1, h2, h3, h4, h5⟩
  exact ⟨C', cv, v, σ', h1, h2, h3, h4, h5, hk⟩

theorem VRl.append {C : Cx} {xs ys : List V} {cs ds : List Value} (h1 : VRl C xs cs) (h2 : VRl C ys ds) : VRl C (xs ++ ys) (cs ++ ds) := by
  refine ⟨by simp [h1.1, h2.1], fun j x c hx hc => ?_⟩
  by_cases hj : j < xs.length
  · rw [List.getElem?_append_left hj] at hx
    rw [List.getElem?_append_left (by rw [h1.1]; exact hj)] at hc
    exact h1.2 j x c hx hc
  · rw [List.getElem?_append_right (by omega)] at hx
    rw [List.getElem?_append_right (by rw [h1.1]; omega), h1.1] at hc
    exact h2.2 _ x c hx hc

/-- After an operation that leaves a value: on with it. -/
theorem lift_value (hI : InvOK n0 Inv) {C C' : Cx} {md : Md} {env : Env} {σ σ' : List O} {a : Act} {dst : Option Nat} {v : V} {cv : Value} (h : R C σ) (h' : R C' σ') (hx : Ext C C') (hinv : Inv md C a.defers) (hN : N ≤ a.tmps.size)
    (he : ∀ t, VR C (get env t) (a.tmps.getD t undef)) (hd : dstOK N dst = true) (hv : VR C' v cv) {K : Kt} (hk : kput md env dst K v σ') : Lift Inv N K (a.put dst cv) C'.w :=
  ⟨C', md, put env dst v, σ', rfl, h', by rw [defers_put]; exact hI.ext hinv h.wf hx, by rw [size_put]; exact hN, env_put (fun t => (he t).ext hx h.wf) hN hd hv, hk⟩

theorem gd_ne {b : Bool} {x y : IOp} (h : gd b x = some y) : x = y := (gd_some h).2

theorem trBuiltin_call {b : Builtin} {args : List Operand} {ts : Array TypeId} {io : IOp} (h : trBuiltin P b args ts = some io) : io.isCall = false := by
  unfold trBuiltin at h
  repeat' split at h
  all_goals first
    | (cases h; done)
    | (obtain ⟨_, rfl⟩ := gd_some h; rfl)
    | (simp only [Option.map_eq_some_iff] at h; obtain ⟨_, _, rfl⟩ := h; rfl)

theorem trOp_call {frz : Bool} {o : Oper} {io : IOp} (h : trOp P frz o = some io) (hc : io.isCall = true) : ∃ c, o.op = .call c ∧
    ((∃ f args, io = .call f args ∧ c.callee = .value (.func f) ∧ trXs c.args.toList = some args) ∨
     (∃ x g args, io = .callv g args ∧ c.callee = .value x ∧ trX x = some g ∧ trXs c.args.toList = some args)) := by
  unfold trOp at h
  cases ho : o.op <;> simp only [ho] at h
  case call c =>
    refine ⟨c, rfl, ?_⟩
    split at h
    · rename_i f hcal
      simp only [Option.map_eq_some_iff] at h
      obtain ⟨xs, hxs, rfl⟩ := h
      exact .inl ⟨f, xs, rfl, hcal, hxs⟩
    · rename_i x _ hcal
      split at h
      · rename_i g xs hg hxs
        cases h
        exact .inr ⟨_, g, xs, rfl, hcal, hg, hxs⟩
      · cases h
    · rw [trBuiltin_call h] at hc; cases hc
    · cases h
  case makeMap t r =>
    exfalso
    cases r <;> simp only at h <;> cases h
    cases hc
  case next x b =>
    exfalso
    cases b <;> simp only at h
    · simp only [Option.map_eq_some_iff] at h; obtain ⟨_, _, rfl⟩ := h; cases hc
    · cases h
  all_goals exfalso
  all_goals repeat' split at h
  all_goals first
    | (cases h; done)
    | (cases h; cases hc; done)
    | (obtain ⟨_, rfl⟩ := gd_some h; cases hc; done)
    | (simp only [Option.map_eq_some_iff] at h; obtain ⟨_, _, rfl⟩ := h; cases hc; done)

theorem abS_sound (hF : FOK F) (hI : InvOK n0 Inv) (hY : YOK P F Inv Y) {ops : Array Oper} {o : Oper} {ex : List Nat} {s : IS} (htr : trS P N ex ops o = some s) {K : Kt} {C : Cx} {md : Md} {env : Env} {σ : List O} {a : Act}
    (h : R C σ) (hinv : Inv md C a.defers) (hN : N ≤ a.tmps.size) (he : ∀ t, VR C (get env t) (a.tmps.getD t undef)) (hk : abS P Y n0 s K md env σ) (Q : Exit → Act → World → Prop) :
    if Region.wanted o (yielded ops a.tmps) = true then o.wpIn F 0 P a C.w (Lift Inv N K) Q else (∀ f, o.about P C.w a.eval = some f → F.fn f) ∧ Lift Inv N K (a.put o.dst undef) C.w := by
  have skipped : ∀ {dst : Option Nat}, dstOK N dst = true → K md (put env dst (.tup [])) σ → Lift Inv N K (a.put dst undef) C.w := fun hd hk =>
    lift_value hI h h (Ext.refl C) hinv hN he hd (.tup [] #[] rfl (by simp)) hk
  have ran : (∀ c, o.op ≠ .defer c) → (∃ r, (execOp a.eval o).run P C.w = r ∧ o.uponIn F 0 P a (Lift Inv N K) Q r) → o.wpIn F 0 P a C.w (Lift Inv N K) Q := by
    rintro hnd ⟨r, h1, h2⟩
    exact ⟨fun f _ => hF.fn f, by rw [hF.semAt _ _ hnd, h1]; exact h2⟩
  have hdep : F.depth.isSome = true → 1 ≤ 0 := by rw [hF.depth]; simp
  have fin : ∀ {f : FuncId} {args : List V} {cargs : List Value} {dst : Option Nat}, dstOK N o.dst = true → (execOp a.eval o).run P C.w = (callFunc f cargs.toArray).run P C.w → VRl C args cargs → callK P f args σ (kput md env o.dst K) →
      ∃ r, (execOp a.eval o).run P C.w = r ∧ o.uponIn F 0 P a (Lift Inv N K) Q r := by
    intro f args cargs dst hd hrun hargs hk
    obtain ⟨h1, h2⟩ := enter_sound hF h hargs hk
    rw [hrun, h1]
    refine ⟨_, rfl, ?_⟩
    rw [Oper.uponIn_enter]
    refine ⟨hdep, h2.mono ?_⟩
    rintro e w' ⟨C', cv, v, σ', rfl, rfl, h3, h4, h5, h6⟩
    exact lift_value hI h h3 h4 hinv hN he hd h5 h6
  unfold trS at htr
  split at htr
  · -- a call
    rename_i g f args hd hg htr'
    cases htr
    rcases guard_sound hg he hk with ⟨hw, hk⟩ | ⟨hw, hk⟩
    · rw [if_pos hw]
      refine ran (trOp_not_defer htr') ?_
      obtain ⟨c, ho, hc | ⟨x, g', args', hE, hcal, hx, hxs⟩⟩ := trOp_call htr' rfl
      · obtain ⟨f', args', hE, hcal, hxs⟩ := hc
        cases hE
        have hargs := trXs_sound (C := C) he hxs
        refine fin (dst := none) hd ?_ hargs hk
        simp only [execOp, ho, resolve, hcal, Act.eval, Deferred.ofValue, Sem.run_bind, Sem.run_pure, Result.andThen_ok, invoke]
        congr 2
        simp [← Array.toList_inj]
      · cases hE
    · rw [if_neg (by rw [hw]; simp)]
      exact ⟨fun f _ => hF.fn f, skipped hd hk⟩
  · -- a call of a value
    rename_i g x args hd hg htr'
    cases htr
    rcases guard_sound hg he hk with ⟨hw, hk⟩ | ⟨hw, hk⟩
    · rw [if_pos hw]
      refine ran (trOp_not_defer htr') ?_
      obtain ⟨c, ho, ⟨f', args', hE, _⟩ | ⟨x', g', args', hE, hcal, hx, hxs⟩⟩ := trOp_call htr' rfl
      · cases hE
      · cases hE
        have hargs := trXs_sound (C := C) he hxs
        have hxv := trX_sound (C := C) hx he
        unfold callvK at hk
        split at hk
        · rename_i f first cap hev
          rw [hev] at hxv
          obtain ⟨cf, cc, hfe, hl1, hl2, h1, h2⟩ : ∃ cf cc, a.eval x' = .func (.func f) cf cc ∧ cf.size = first.length ∧ cc.size = cap.length ∧
              (∀ (j : Nat) (x : V) (c : Value), first[j]? = some x → cf[j]? = some c → VR C x c) ∧ (∀ (j : Nat) (x : V) (c : Value), cap[j]? = some x → cc[j]? = some c → VR C x c) := by
            generalize a.eval x' = cv at hxv
            cases hxv with
            | f _ _ _ cf cc a1 a2 a3 a4 => exact ⟨cf, cc, rfl, a1, a2, a3, a4⟩
          refine fin (dst := none) hd (cargs := cf.toList ++ c.args.toList.map a.eval ++ cc.toList) ?_ ?_ hk
          · have hrun : (execOp a.eval o).run P C.w = (callFunc f (cf ++ c.args.map a.eval ++ cc)).run P C.w := by
              simp only [execOp, ho, resolve, hcal, hfe, Deferred.ofValue, Sem.run_bind, Sem.run_pure, Result.andThen_ok, invoke]
            rw [hrun]
            congr 2
            simp [← Array.toList_inj]
          · exact (VRl.append ⟨by simpa using hl1, fun j x c hx hc => h1 j x c hx (by simpa using hc)⟩ hargs).append ⟨by simpa using hl2, fun j x c hx hc => h2 j x c hx (by simpa using hc)⟩
        · rename_i l hev
          rw [hev] at hxv
          obtain ⟨rfl, k, n, hn0, hn, hk⟩ := hk
          have hfe : a.eval x' = .func (.yield l) #[] #[] := by
            generalize a.eval x' = cv at hxv
            cases hxv with
            | f _ _ _ cf cc a1 a2 a3 a4 =>
              have e1 : cf = #[] := by simpa using a1
              have e2 : cc = #[] := by simpa using a2
              rw [e1, e2]
          have hrun : (execOp a.eval o).run P C.w = (Instr.yield l (c.args.toList.map a.eval).toArray).run P C.w := by
            have : (c.args.toList.map a.eval).toArray = #[] ++ c.args.map a.eval := by simp [← Array.toList_inj]
            rw [this]
            simp only [execOp, ho, resolve, hcal, hfe, Deferred.ofValue, Sem.run_bind, Sem.run_pure, Result.andThen_ok, invoke]
          have hargs' : VRl (C.trunc n) (args.map (fun x => frz k n σ (x.ev (get env)))) (c.args.toList.map a.eval) := by
            refine ⟨by have := hargs.1; simpa using this, fun j x d hx hd' => ?_⟩
            rw [List.getElem?_map, Option.map_eq_some_iff] at hx
            obtain ⟨y, hy, rfl⟩ := hx
            exact frz_sound h k (hargs.2 j (y.ev (get env)) d (by rw [List.getElem?_map, hy]; rfl) hd')
          obtain ⟨fn, tmps, asg, body, w', h1, h2⟩ := hY l _ _ _ (C.trunc n) a.defers _ (hI.trunc hinv h.wf hn0) (frzS_sound h k hn) hargs' (by simpa [List.map_map, Function.comp_def] using hk)
          have h1' : (Instr.yield l (c.args.toList.map a.eval).toArray).run P C.w = .ok (.round l fn tmps asg body) w' := h1
          rw [hrun, h1']
          refine ⟨_, rfl, ?_⟩
          rw [Oper.uponIn_round]
          refine ⟨hdep, h2.mono ?_⟩
          rintro e w'' ⟨md', C', b, σ', rfl, rfl, h3, h4, h5, h6⟩
          exact ⟨C', md', _, σ', rfl, h3, by rw [defers_put]; exact h5, by rw [size_put]; exact hN,
            env_put (fun t => h4 _ _ (env_frz h he k n t)) hN hd (.b b), h6 h3.ltAll (by rw [h3.len]; exact hI.le h5)⟩
        · exact hk.elim
    · rw [if_neg (by rw [hw]; simp)]
      exact ⟨fun f _ => hF.fn f, skipped hd hk⟩
  · -- any other operation
    rename_i g io hn1 hn2 hd hg htr'
    cases htr
    rcases guard_sound hg he hk with ⟨hw, hk⟩ | ⟨hw, hk⟩
    · rw [if_pos hw]
      refine ran (trOp_not_defer htr') ?_
      obtain ⟨cv, C', v, σ', hr, h1, h2, h3, h4⟩ := ev_sound h he htr' hk
      refine ⟨_, rfl, ?_⟩
      rcases hr with hr | ⟨hr, rfl⟩
      · rw [hr, Oper.uponIn_value]
        exact lift_value hI h h1 h2 hinv hN he hd h3 h4
      · rw [hr, Oper.uponIn_skip]
        exact lift_value hI h h1 h2 hinv hN he hd h3 h4
    · rw [if_neg (by rw [hw]; simp)]
      exact ⟨fun f _ => hF.fn f, skipped hd hk⟩
  · cases htr

theorem abSs_sound (hF : FOK F) (hI : InvOK n0 Inv) (hY : YOK P F Inv Y) {ops : Array Oper} {ex : List Nat} {K : Kt} {Q : Exit → Act → World → Prop} (hQ : ∀ a w, Lift Inv N K a w → Q .normal a w) :
    ∀ {l : List Oper} {ss : List IS}, trSs P N ex ops l = some ss → ∀ {a : Act} {w : World}, Lift Inv N (abSs P Y n0 ss K) a w → wpListIn F 0 P ops Q l a w
  | [], ss, h, a, w, hl => by
    simp only [trSs, Option.some.injEq] at h
    subst h
    exact hQ a w hl
  | o :: l, ss, h, a, w, hl => by
    simp only [trSs] at h
    split at h
    · rename_i s ss' hs hss
      cases h
      obtain ⟨C, md, env, σ, rfl, h2, h3, h4, h5, h6⟩ := hl
      have := abS_sound hF hI hY hs h2 h3 h4 h5 h6 Q
      simp only [wpListIn]
      split
      · rename_i hw
        rw [if_pos hw] at this
        exact Oper.wpIn_mono (fun a w hl' => abSs_sound hF hI hY hQ hss hl') this
      · rename_i hw
        rw [if_neg hw] at this
        exact ⟨this.1, abSs_sound hF hI hY hQ hss this.2⟩
    · cases h

end
end Go.Ab
