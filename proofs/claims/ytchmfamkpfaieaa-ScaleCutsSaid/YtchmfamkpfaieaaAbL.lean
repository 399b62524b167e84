/- The abstract layer, part 21: the code does what the abstract machine does. -/
import Derived.Test.YtchmfamkpfaieaaAbK
set_option linter.unusedVariables false
set_option linter.unusedSimpArgs false
namespace Go.Ab
open Go

theorem least {p : Nat → Prop} (h : ∃ m, p m) : ∃ m, p m ∧ ∀ k, p k → m ≤ k := by
  obtain ⟨m, hm⟩ := h
  induction m using Nat.strongRecOn with
  | _ m ih =>
    by_cases hk : ∃ k, k < m ∧ p k
    · obtain ⟨k, h1, h2⟩ := hk
      exact ih k h1 h2
    · exact ⟨m, hm, fun k hp => by
        by_cases hlt : m ≤ k
        · exact hlt
        · exact absurd ⟨k, by omega, hp⟩ hk⟩

/-- A loop, with a measure that is only said to be there. -/
theorem wpIn_loop_ex {F : Fence} {n : Nat} {P : Program} {Q : Exit → Act → World → Prop} {a : Act} {w : World} {c : Code} (I : Nat → Act → World → Prop) (h₀ : ∃ m, I m a w)
    (round : ∀ m a w, I m a w → c.wpIn F n P (Exit.then (fun a' w' => ∃ m', m' < m ∧ I m' a' w') Q) a w) : (Code.loop c).wpIn F n P Q a w := by
  have hμ : ∃ μ : Act → World → Nat, ∀ a w, (∃ m, I m a w) → I (μ a w) a w ∧ ∀ k, I k a w → μ a w ≤ k := by
    classical
    refine ⟨fun a w => if h : ∃ m, I m a w then Classical.choose (least h) else 0, fun a w h => ?_⟩
    simp only [dif_pos h]
    exact Classical.choose_spec (least h)
  obtain ⟨μ, hμ⟩ := hμ
  refine wpIn_loop (fun a w => ∃ m, I m a w) μ h₀ (fun a w h => ?_)
  obtain ⟨h1, h2⟩ := hμ a w h
  refine wpIn_mono (round (μ a w) a w h1) (fun e a' w' hq => ?_)
  cases e with
  | normal =>
    obtain ⟨m', hlt, hm'⟩ := hq
    exact ⟨⟨m', hm'⟩, Nat.lt_of_le_of_lt ((hμ a' w' ⟨m', hm'⟩).2 m' hm') hlt⟩
  | exit id => exact hq
  | goto l => exact hq
  | ret => exact hq
  | panic ch => exact hq
  | outgrown => exact hq

theorem foldl_puts_size {ps : List Nat} : ∀ {cs : List Value} {t : Array Value}, ((ps.zip cs).foldl (fun t (p : Nat × Value) => t.setIfInBounds p.1 p.2) t).size = t.size := by
  induction ps with
  | nil => intro cs t; rfl
  | cons p ps ih =>
    intro cs t
    cases cs with
    | nil => rfl
    | cons c cs =>
      simp only [List.zip_cons_cons, List.foldl_cons]
      rw [ih]; simp

theorem env_puts {C : Cx} {N : Nat} : ∀ {ps : List Nat} {x : List V} {cs : List Value} {env : Env} {t : Array Value}, VRl C x cs → ps.all (fun p => decide (p < N)) = true → N ≤ t.size → (∀ s, VR C (get env s) (t.getD s undef)) →
    ∀ s, VR C (get (puts env ps x) s) (((ps.zip cs).foldl (fun t (p : Nat × Value) => t.setIfInBounds p.1 p.2) t).getD s undef)
  | [], x, cs, env, t, _, _, _, he, s => by
    cases x <;> exact he s
  | p :: ps, [], cs, env, t, hx, hp, hN, he, s => by
    have : cs = [] := by have := hx.1; simpa using this
    subst this
    exact he s
  | p :: ps, v :: x, [], env, t, hx, hp, hN, he, s => by have := hx.1; simp at this
  | p :: ps, v :: x, c :: cs, env, t, hx, hp, hN, he, s => by
    simp only [List.all_cons, Bool.and_eq_true, decide_eq_true_eq] at hp
    simp only [puts, List.zip_cons_cons, List.foldl_cons]
    refine env_puts (N := N) (ps := ps) (x := x) (cs := cs) ⟨by have := hx.1; simpa using this, fun j y d hy hd => hx.2 (j + 1) y d (by simpa using hy) (by simpa using hd)⟩ hp.2 (by simpa using hN) (fun s' => ?_) s
    have := env_put (N := N) (a := { tmps := t, defers := [] }) (dst := some p) (v := v) (cv := c) he hN (by simp [dstOK]; exact hp.1) (hx.2 0 v c rfl rfl) s'
    exact this

theorem zip_foldl {ps : Array Nat} {args : List Value} {t : Array Value} :
    (ps.zip args.toArray).foldl (fun tmps (t, a) => tmps.setIfInBounds t a) t = (ps.toList.zip args).foldl (fun t (p : Nat × Value) => t.setIfInBounds p.1 p.2) t := by
  rw [← Array.foldl_toList]
  simp [Array.toList_zip]

def jumpOf : Nat → Code
  | 0 => .ret
  | id + 1 => .exit id

section
variable {P : Program} {N : Nat} {ex : List Nat} {It : ItTy}

theorem rfn_sound (hIt : ItOK P It) {F : Fence} {n0 : Nat} {Inv : Md → Cx → List Deferred → Prop} (hF : FOK F) (hI : InvOK n0 Inv) (hRf : RfnOK It P F Inv) {Y : Yield}
    {g : Operand} {ps : Array Tmp} {asg body : Code} {g' : Od} {ia ib : IC} (hg : trX g = some g') (hps : ps.toList.all (fun p => decide (p < N)) = true)
    (iha : ∀ {F : Fence} {n0 : Nat} {Inv : Md → Cx → List Deferred → Prop}, FOK F → InvOK n0 Inv → RfnOK It P F Inv → ∀ {K : Kt} {E : List (Nat × Kt)} {Rt : Kt} {Q : Exit → Act → World → Prop},
      (∀ a w, Lift Inv N K a w → Q .normal a w) → (∀ id a w, Lift Inv N (exitK E id) a w → Q (.exit id) a w) → (∀ a w, Lift Inv N Rt a w → Q .ret a w) → ∀ {a w}, Lift Inv N (ab P noY It n0 ia K E Rt) a w → asg.wpIn F 0 P Q a w)
    (ihb : ∀ {F : Fence} {n0 : Nat} {Inv : Md → Cx → List Deferred → Prop}, FOK F → InvOK n0 Inv → RfnOK It P F Inv → ∀ {K : Kt} {E : List (Nat × Kt)} {Rt : Kt} {Q : Exit → Act → World → Prop},
      (∀ a w, Lift Inv N K a w → Q .normal a w) → (∀ id a w, Lift Inv N (exitK E id) a w → Q (.exit id) a w) → (∀ a w, Lift Inv N Rt a w → Q .ret a w) → ∀ {a w}, Lift Inv N (ab P noY It n0 ib K E Rt) a w → body.wpIn F 0 P Q a w)
    {K : Kt} {E : List (Nat × Kt)} {Rt : Kt} {Q : Exit → Act → World → Prop} (hQ : ∀ a w, Lift Inv N K a w → Q .normal a w) (hE : ∀ id a w, Lift Inv N (exitK E id) a w → Q (.exit id) a w) (hR : ∀ a w, Lift Inv N Rt a w → Q .ret a w)
    {a : Act} {w : World} (hl : Lift Inv N (ab P Y It n0 (.rfn g' ps.toList ia ib) K E Rt) a w) : (Code.rangeFunc g ps asg body).wpIn F 0 P Q a w := by
  obtain ⟨C, md, env, σ, rfl, hRR, hinv, hN, he, hk⟩ := hl
  have hgv := trX_sound (C := C) hg he
  simp only [ab] at hk
  split at hk
  · rename_i f first cap hev
    rw [hev] at hgv
    obtain ⟨xs, Pre, hit, J, hJP, hJ0, hround, hfin⟩ := hk
    obtain ⟨cf, cc, hfe, hl1, hl2, h1, h2⟩ : ∃ cf cc, a.eval g = .func (.func f) cf cc ∧ cf.size = first.length ∧ cc.size = cap.length ∧
        (∀ (j : Nat) (x : V) (c : Value), first[j]? = some x → cf[j]? = some c → VR C x c) ∧ (∀ (j : Nat) (x : V) (c : Value), cap[j]? = some x → cc[j]? = some c → VR C x c) := by
      generalize a.eval g = cv at hgv
      cases hgv with
      | f _ _ _ cf cc a1 a2 a3 a4 => exact ⟨cf, cc, rfl, a1, a2, a3, a4⟩
    obtain ⟨⟨fn, hf, hn, hb⟩, hspec⟩ := hIt f first cap xs Pre hit
    refine wpIn_rangeFunc (fun fid _ => ?_)
    obtain ⟨l, mark, w1, dd, hent, ho1, ho2, ho3, hll, hlt, hold, hrec, hback⟩ := hRf ⟨f, first, cap, xs, Pre, hit⟩ md C a.defers fid a.tmps ps asg body hRR.wf hinv
    obtain ⟨hR1, hx1⟩ := hRR.quiet (w' := w1) ho1 ho2 ho3 (by omega) hold
    have hlρ : ∀ i p : Nat, (C.world w1).ρ[i]? ≠ some (l, p) := fun i p hi => by have := hRR.wf.lt i l p hi; omega
    have hlz : ¬ (C.world w1).Z l := fun hz => by have := hRR.wf.zlt l hz; omega
    have hwf1 := hR1.wf
    have hlen1 : (C.world w1).vs.length = σ.length := hR1.len.symm
    -- the records
    have hrc : ∀ {st : LoopState} {pe : Option Code}, ∃ r : Loop, r = { state := st, pending := pe, fn := fid, tmps := a.tmps, params := ps, assign := asg, body := body, defers := dd } := fun {st pe} => ⟨_, rfl⟩
    let rec_ : LoopState → Option Code → Loop := fun st pe => { state := st, pending := pe, fn := fid, tmps := a.tmps, params := ps, assign := asg, body := body, defers := dd }
    let Iv : Md → Cx → List Deferred → Prop := fun md' C' D => D = [] ∧ ExtA (· = l) (C.world w1) C' ∧ C'.w.heap[l]? = some (.loop (match md' with | none => rec_ .ready none | some j => rec_ .done (some (jumpOf j))))
    have ap : ∀ {C' : Cx}, ExtA (· = l) (C.world w1) C' → l < C'.w.heap.size ∧ (∀ i p : Nat, C'.ρ[i]? ≠ some (l, p)) ∧ ¬ C'.Z l := fun h => h.apart hlt hlρ hlz
    have hIv : InvOK σ.length Iv := {
      ext := fun {md' C' C'' D} h wf x => ⟨h.1, h.2.1.trans (x.toA _) (fun b hb => .inl hb), (x.frame l (ap h.2.1).1 (ap h.2.1).2.1).trans h.2.2⟩
      trunc := fun {md' C' D n} h wf hn => ⟨h.1, truncA h.2.1 hwf1 (by omega), h.2.2⟩
      le := fun {md' C' D} h => by have := h.2.1.len; omega }
    have ev1 : ∀ t, VR (C.world w1) (get env t) (a.tmps.getD t undef) := fun t => (he t).ext hx1 hRR.wf
    -- the jumps
    let Dn : Nat → List O → Prop := fun j σ' => match j with | 0 => Rt md env σ' | id + 1 => exitK E id md env σ'
    let Yl : Yield := fun l' args σ' Kont => l' = l ∧ ∃ i, xs[i]? = some args ∧ J i σ' ∧ (∀ σ'', J (i + 1) σ'' → Kont none (.b true) σ'') ∧ (∀ j σ'', Dn j σ'' → Kont (some j) (.b false) σ'')
    have hYl : YOK P Fence.wide Iv Yl := by
      rintro l' args σ' Kont C' D cargs ⟨rfl, hxa, hrl⟩ hR' hargs ⟨rfl, i, hxi, hJi, hKt, hKf⟩
      obtain ⟨hxl, habs⟩ := hround i args σ' hxi hJi
      obtain ⟨al, aρ, az⟩ := ap hxa
      have hwf' := hR'.wf
      have hlen' : C'.vs.length = σ'.length := hR'.len.symm
      refine ⟨fid, _, asg, body, C'.w, run_yield hrl (by
        have h3 : cargs.length = args.length := hargs.1
        simp only [List.size_toArray]
        show cargs.length = ps.size
        rw [h3, hxl]; simp), roundIn_of_wpIn (F := Fence.wide) trivial ?_⟩
      -- what is carried along in a round
      let Ir : LoopState → Md → Cx → List Deferred → Prop := fun st md' C'' D => md' = md ∧ D = [] ∧ ExtA (· = l') (C.world w1) C'' ∧ ExtA (· = l') C' C'' ∧ C''.w.heap[l']? = some (.loop (rec_ st none))
      have hIr : ∀ st, InvOK σ'.length (Ir st) := fun st => {
        ext := fun {md' C1 C2 D} h wf x => ⟨h.1, h.2.1, h.2.2.1.trans (x.toA _) (fun b hb => .inl hb), h.2.2.2.1.trans (x.toA _) (fun b hb => .inl hb), (x.frame l' (ap h.2.2.1).1 (ap h.2.2.1).2.1).trans h.2.2.2.2⟩
        trunc := fun {md' C1 D n} h wf hn => ⟨h.1, h.2.1, truncA h.2.2.1 hwf1 (by have := hxa.len; omega), truncA h.2.2.2.1 hwf' (by omega), h.2.2.2.2⟩
        le := fun {md' C1 D} h => by have := h.2.2.2.1.len; omega }
      have hRr : ∀ st, RfnOK It P (Fence.wide.inRound l') (Ir st) := by
        rintro st - md' C1 D fn' tmps' ps' asg' body' wf ⟨e1, e2, e3, e4, e5⟩
        subst e2
        obtain ⟨bl, bρ, bz⟩ := ap e3
        refine ⟨C1.w.heap.size, [], C1.w.alloc (.loop { state := .ready, pending := none, fn := fn', tmps := tmps', params := ps', assign := asg', body := body', defers := (rec_ st none).defers }), (rec_ st none).defers, ?_, rfl, rfl, rfl, Nat.le_refl _, by simp, fun b hb => heap_alloc_lt _ _ hb, heap_alloc_eq _ _, ?_⟩
        · unfold Instr.enterLoop
          simp only [Fence.inRound_round, Sem.run_bind, run_getLoop e5, Result.andThen, Sem.run_pure, run_newObj_alloc]
        · intro C2 hx2
          generalize hob : (Obj.loop { state := .ready, pending := none, fn := fn', tmps := tmps', params := ps', assign := asg', body := body', defers := (rec_ st none).defers }) = ob at hx2
          have hq : ExtA (fun _ => False) C1 (C1.world (C1.w.alloc ob)) :=
            (world_ext (w' := C1.w.alloc ob) wf rfl rfl rfl (by simp) (fun b hb _ => heap_alloc_lt _ _ hb) (fun i b p hi cc t hc => ⟨cc, (heap_alloc_lt _ _ (wf.lt i b p hi)).trans hc, rfl⟩)).toA _
          have hq2 : ExtA (fun _ => False) C1 C2 := by
            have := (hq.trans hx2 (fun b hb => .inr (by rw [hb]; exact Nat.le_refl _)))
            exact this
          refine ⟨e1, rfl, e3.trans hq2 (fun b hb => hb.elim), e4.trans hq2 (fun b hb => hb.elim), ?_⟩
          exact (hq2.frame l' bl bρ (fun h => h)).trans e5
      -- the start of the round
      have hstart : Lift (Ir .ready) N (ab P noY It σ'.length ia (ab P noY It σ'.length ib (roundK σ'.length (J (i + 1)) md) (constE env E) (constK env Rt)) [] (fun _ _ _ => False))
          { tmps := (ps.zip cargs.toArray).foldl (fun tmps (t, a) => tmps.setIfInBounds t a) a.tmps, defers := [] } C'.w := by
        refine ⟨C', md, puts env ps.toList args, σ', rfl, hR', ⟨rfl, rfl, hxa, ExtA.refl _ _, hrl⟩, ?_, fun t => ?_, habs⟩
        · show N ≤ ((ps.zip cargs.toArray).foldl (fun tmps (t, a) => tmps.setIfInBounds t a) a.tmps).size
          rw [zip_foldl, foldl_puts_size]; exact hN
        · show VR C' _ (((ps.zip cargs.toArray).foldl (fun tmps (t, a) => tmps.setIfInBounds t a) a.tmps).getD t undef)
          rw [zip_foldl]
          exact env_puts hargs hps hN (fun s => (ev1 s).extA hxa hwf1 (fun b hb => hb ▸ hlz)) t
      refine iha (F := Fence.wide.inRound l') (n0 := σ'.length) (Inv := Ir .ready) (.inr ⟨l', rfl⟩) (hIr _) (hRr _) ?_ (fun id a w h => by obtain ⟨_, _, _, _, _, _, _, _, _, h⟩ := h; exact h.elim) (fun a w h => by obtain ⟨_, _, _, _, _, _, _, _, _, h⟩ := h; exact h.elim) hstart
      -- the round's body
      rintro a2 w2 ⟨C2, md2, env2, σ2, rfl, hR2, ⟨rfl, hd2, hx2, hy2, hr2⟩, hN2, he2, hk2⟩
      obtain ⟨bl, bρ, bz⟩ := ap hx2
      obtain ⟨hR3, hx3, hr3⟩ := hR2.put bl bρ bz (.loop { rec_ .ready none with state := .busy })
      refine ⟨_, run_beginRound hr2 rfl, ?_⟩
      have hbody : Lift (Ir .busy) N (ab P noY It σ'.length ib (roundK σ'.length (J (i + 1)) md2) (constE env E) (constK env Rt)) a2 (C2.w.putObj l' (.loop { rec_ .ready none with state := .busy })) :=
        ⟨C2.world _, md2, env2, σ2, rfl, hR3, ⟨rfl, hd2, hx2.trans hx3 (fun b hb => .inl hb), hy2.trans hx3 (fun b hb => .inl hb), hr3⟩, hN2, fun t => (he2 t).extA hx3 hR2.wf (fun b hb => hb ▸ bz), hk2⟩
      -- what is behind a round's end
      have fin : ∀ (C4 : Cx) (σ4 : List O) (md' : Md) (jump : Option Code), R C4 σ4 → Ir .busy md2 C4 [] → Kont md' (.b jump.isNone) σ4 →
          (match md' with | none => jump = none | some j => jump = some (jumpOf j)) →
          ∃ v w', (Instr.endRound l' jump).run P C4.w = .ok v w' ∧ ∃ md' C5 b σ', C5.w = w' ∧ Ending.returned v = .returned (.bool b) ∧ R C5 σ' ∧ (∀ v c, VR C' v c → VR C5 v c) ∧ Iv md' C5 [] ∧ Kont md' (.b b) σ' := by
        rintro C4 σ4 md' jump hR4 ⟨-, -, hx4, hy4, hr4⟩ hK4 hj
        obtain ⟨dl, dρ, dz⟩ := ap hx4
        obtain ⟨hR5, hx5, hr5⟩ := hR4.put dl dρ dz (.loop (rec_ (if jump.isNone then .ready else .done) jump))
        refine ⟨_, _, run_endRound jump hr4, md', C4.world (C4.w.putObj l' (.loop (rec_ (if jump.isNone then .ready else .done) jump))), jump.isNone, σ4, rfl, rfl, hR5, fun v c hv => ?_, ⟨rfl, hx4.trans hx5 (fun b hb => .inl hb), ?_⟩, hK4⟩
        · exact hv.extA (hy4.trans hx5 (fun b hb => .inl hb)) hwf' (fun b hb => hb ▸ az)
        · cases md' with
          | none => subst hj; exact hr5
          | some j => subst hj; exact hr5
      refine ihb (F := Fence.wide.inRound l') (n0 := σ'.length) (Inv := Ir .busy) (.inr ⟨l', rfl⟩) (hIr _) (hRr _) ?_ ?_ ?_ hbody
      · rintro a4 w4 ⟨C4, md4, env4, σ4, rfl, hR4, hi4, hN4, he4, rfl, hk4⟩
        have hd4 : a4.defers = [] := hi4.2.1
        rw [hd4] at hi4
        rcases hk4 with hk4 | ⟨k, n, hn1, hn2, hk4⟩
        · exact fin C4 σ4 none none hR4 hi4 (hKt _ hk4) rfl
        · exact fin (C4.trunc n) (frzS k n σ4) none none (frzS_sound hR4 k hn2) ((hIr _).trunc hi4 hR4.wf hn1) (hKt _ hk4) rfl
      · rintro id a4 w4 ⟨C4, md4, env4, σ4, rfl, hR4, hi4, hN4, he4, hk4⟩
        have hd4 : a4.defers = [] := hi4.2.1
        have hm4 : md4 = md2 := hi4.1
        subst hm4
        rw [hd4] at hi4
        rw [exitK_const] at hk4
        exact fin C4 σ4 (some (id + 1)) (some (.exit id)) hR4 hi4 (hKf (id + 1) σ4 hk4) rfl
      · rintro a4 w4 ⟨C4, md4, env4, σ4, rfl, hR4, hi4, hN4, he4, hk4⟩
        have hd4 : a4.defers = [] := hi4.2.1
        have hm4 : md4 = md2 := hi4.1
        subst hm4
        rw [hd4] at hi4
        exact fin C4 σ4 (some 0) (some .ret) hR4 hi4 (hKf 0 σ4 hk4) rfl
    have hcargs : VRl (C.world w1) (first ++ [V.f (.yield l) [] []] ++ cap) (cf.toList ++ [Value.func (.yield l) #[] #[]] ++ cc.toList) := by
      refine (VRl.append ⟨by simpa using hl1, fun j x c hx hc => (h1 j x c hx (by simpa using hc)).ext hx1 hRR.wf⟩ ⟨rfl, fun j x c hx hc => ?_⟩).append ⟨by simpa using hl2, fun j x c hx hc => (h2 j x c hx (by simpa using hc)).ext hx1 hRR.wf⟩
      cases j with
      | zero =>
        simp at hx hc
        subst hx; subst hc
        exact .f _ _ _ _ _ rfl rfl (by simp) (by simp)
      | succ j => simp at hx
    have hcall := hspec Iv Yl J Dn (C.world w1) σ l _ hIv hYl hR1 ⟨rfl, ExtA.refl _ _, hrec⟩ hJ0 hJP hcargs (fun i x σ' Kont hxi hJi hKt hKf => ⟨rfl, i, hxi, hJi, hKt, hKf⟩)
    have hargs : (cf.toList ++ [Value.func (.yield l) #[] #[]] ++ cc.toList).toArray = cf ++ #[Value.func (.yield l) #[] #[]] ++ cc := by simp [← Array.toList_inj]
    rw [hargs] at hcall
    refine ⟨l, mark, w1, { target := .fn (.func f) cc, args := cf ++ #[Value.func (.yield l) #[] #[]] }, w1, f, cf ++ #[Value.func (.yield l) #[] #[]] ++ cc, w1, hent, ?_, fun f' _ => hF.fn f', ?_, by rw [hF.depth]; simp, ?_⟩
    · have : (rangeCall g l).args.map a.eval = #[Value.func (.yield l) #[] #[]] := by simp [Act.eval]
      simp only [resolve, hfe, this, Deferred.ofValue, Sem.run_pure]
    · simp only [invoke]
      exact callFunc_run hf hn hb _ _
    · refine (hF.calls hcall).mono ?_
      rintro e w' ⟨C', cv, md', σ', rfl, rfl, hR', ⟨-, hxa, hrl⟩, hpost⟩
      obtain ⟨al, aρ, az⟩ := ap hxa
      obtain ⟨hR6, hx6, hr6⟩ := hR'.put al aρ az (.loop { (match md' with | none => rec_ .ready none | some j => rec_ .done (some (jumpOf j))) with state := .exhausted })
      have hst : (match md' with | none => rec_ .ready none | some j => rec_ .done (some (jumpOf j))).state ≠ .busy := by cases md' <;> simp [rec_]
      refine ⟨_, _, run_endLoop hrl hst, ?_⟩
      have hx7 := hxa.trans hx6 (fun b hb => .inl hb)
      have hinv7 := hback _ hx7
      have he7 : ∀ t, VR (C'.world _) (get env t) (a.tmps.getD t undef) := fun t => (ev1 t).extA hx7 hwf1 (fun b hb => hb ▸ hlz)
      cases md' with
      | none => exact hQ _ _ ⟨_, md, env, σ', rfl, hR6, hinv7, hN, he7, hfin σ' hpost⟩
      | some j =>
        cases j with
        | zero => exact wpIn_ret (hR _ _ ⟨_, md, env, σ', rfl, hR6, hinv7, hN, he7, hpost⟩)
        | succ id => exact wpIn_exit (hE id _ _ ⟨_, md, env, σ', rfl, hR6, hinv7, hN, he7, hpost⟩)
  · exact hk.elim

theorem ab_sound (hm : P.follows .mixedOrders = true) (hIt : ItOK P It) : ∀ (c : Code) {F : Fence} {n0 : Nat} {Inv : Md → Cx → List Deferred → Prop}, FOK F → InvOK n0 Inv → RfnOK It P F Inv → ∀ {Y : Yield}, YOK P F Inv Y →
    ∀ {ic : IC}, trC P N ex c = some ic.erase → ∀ {K : Kt} {E : List (Nat × Kt)} {Rt : Kt} {Q : Exit → Act → World → Prop},
      (∀ a w, Lift Inv N K a w → Q .normal a w) → (∀ id a w, Lift Inv N (exitK E id) a w → Q (.exit id) a w) → (∀ a w, Lift Inv N Rt a w → Q .ret a w) → ∀ {a w}, Lift Inv N (ab P Y It n0 ic K E Rt) a w → c.wpIn F 0 P Q a w := by
  intro c
  induction c with
  | skip =>
    intro F n0 Inv hF hI hRf Y hY ic htr K E Rt Q hQ hE hR a w hl
    simp only [trC, Option.some.injEq] at htr
    cases ic <;> simp [IC.erase] at htr
    exact wpIn_skip (hQ a w hl)
  | label l =>
    intro F n0 Inv hF hI hRf Y hY ic htr K E Rt Q hQ hE hR a w hl
    simp only [trC, Option.some.injEq] at htr
    cases ic <;> simp [IC.erase] at htr
    exact wpIn_label (hQ a w hl)
  | region id ops draw =>
    intro F n0 Inv hF hI hRf Y hY ic htr K E Rt Q hQ hE hR a w hl
    simp only [trC] at htr
    split at htr
    · rename_i ss hss
      cases draw with
      | false =>
        simp only [Bool.false_eq_true, if_false, Option.some.injEq] at htr
        cases ic <;> simp [IC.erase] at htr
        rename_i ops' live
        subst htr
        refine wpIn_region_list (abSs_sound (K := keepK live K) hF hI hY (fun a w h => hQ a w ?_) hss hl)
        obtain ⟨C, md, env, σ, h1, h2, h3, h4, h5, h6⟩ := h
        exact ⟨C, md, keepO env live, σ, h1, h2, h3, h4, env_keep h5 live, h6⟩
      | true =>
        simp only [if_true] at htr
        split at htr
        · rename_i hok
          simp only [Option.some.injEq] at htr
          cases ic <;> simp [IC.erase] at htr
          rename_i ops' live
          subst htr
          refine drw_sound (K := keepK live K) hm hF hI hss hok (fun a w h => hQ a w ?_) hl
          obtain ⟨C, md, env, σ, h1, h2, h3, h4, h5, h6⟩ := h
          exact ⟨C, md, keepO env live, σ, h1, h2, h3, h4, env_keep h5 live, h6⟩
        · cases htr
    · cases htr
  | seq x y ihx ihy =>
    intro F n0 Inv hF hI hRf Y hY ic htr K E Rt Q hQ hE hR a w hl
    simp only [trC] at htr
    split at htr
    · rename_i ix iy hx hy
      simp only [Option.some.injEq] at htr
      cases ic <;> simp [IC.erase] at htr
      obtain ⟨rfl, rfl⟩ := htr
      exact wpIn_seq (ihx (Q := Exit.then (y.wpIn F 0 P Q) Q) hF hI hRf hY hx (fun a w h => ihy hF hI hRf hY hy hQ hE hR h) hE hR hl)
    · cases htr
  | cond c x y ihx ihy =>
    intro F n0 Inv hF hI hRf Y hY ic htr K E Rt Q hQ hE hR a w hl
    simp only [trC] at htr
    split at htr
    · rename_i c' ix iy hc hx hy
      simp only [Option.some.injEq] at htr
      cases ic <;> simp [IC.erase] at htr
      obtain ⟨rfl, rfl, rfl⟩ := htr
      obtain ⟨C, md, env, σ, rfl, h2, h3, h4, h5, h6⟩ := hl
      simp only [ab] at h6
      split at h6
      · rename_i t ht
        have hv := trX_sound hc h5
        rw [ht] at hv
        refine wpIn_cond (t := t) (bool_inv hv) ?_
        cases t with
        | true => exact ihx hF hI hRf hY hx hQ hE hR ⟨C, md, env, σ, rfl, h2, h3, h4, h5, by simpa using h6⟩
        | false => exact ihy hF hI hRf hY hy hQ hE hR ⟨C, md, env, σ, rfl, h2, h3, h4, h5, by simpa using h6⟩
      · exact h6.elim
    · cases htr
  | block id x ihx =>
    intro F n0 Inv hF hI hRf Y hY ic htr K E Rt Q hQ hE hR a w hl
    simp only [trC, Option.map_eq_some_iff] at htr
    obtain ⟨ix, hx, htr⟩ := htr
    cases ic <;> simp [IC.erase] at htr
    obtain ⟨rfl, rfl⟩ := htr
    refine wpIn_block (ihx (Q := Exit.inBlock id Q) hF hI hRf hY hx hQ (fun id' a w h => ?_) hR hl)
    simp only [Exit.inBlock]
    split
    · rename_i hid
      subst hid
      refine hQ a w (h.mono fun md env σ hk => ?_)
      simpa [exitK] using hk
    · rename_i hid
      refine hE id' a w (h.mono fun md env σ hk => ?_)
      simp only [exitK, if_neg (fun hE => hid (Eq.symm hE))] at hk
      exact hk
  | loop x ihx =>
    intro F n0 Inv hF hI hRf Y hY ic htr K E Rt Q hQ hE hR a w hl
    simp only [trC, Option.map_eq_some_iff] at htr
    obtain ⟨ix, hx, htr⟩ := htr
    cases ic <;> simp [IC.erase] at htr
    rename_i live x'
    subst htr
    obtain ⟨C, md, env, σ, rfl, h2, h3, h4, h5, Ia, ⟨m0, hm0⟩, hround⟩ := hl
    refine wpIn_loop_ex (fun m a w => Lift Inv N (fun md' env σ => md' = md ∧ Ia m env σ) a w) ⟨m0, C, md, keepO env live, σ, rfl, h2, h3, h4, env_keep h5 live, rfl, hm0⟩ ?_
    rintro m a1 w1 ⟨C1, md1, env1, σ1, rfl, k2, k3, k4, k5, rfl, k6⟩
    refine ihx (Q := Exit.then _ Q) hF hI hRf hY hx ?_ (fun id a w h => hE id a w h) (fun a w h => hR a w h) ⟨C1, md1, env1, σ1, rfl, k2, k3, k4, k5, hround m env1 σ1 k6⟩
    rintro a2 w2 ⟨C2, md2, env2, σ2, rfl, j2, j3, j4, j5, rfl, m', hlt, j6⟩
    refine ⟨m', hlt, ?_⟩
    rcases j6 with j6 | ⟨k, n, hn1, hn2, j6⟩
    · exact ⟨C2, md2, keepO env2 live, σ2, rfl, j2, j3, j4, env_keep j5 live, rfl, j6⟩
    · exact ⟨C2.trunc n, md2, keepO (frzE k n σ2 env2) live, frzS k n σ2, rfl, frzS_sound j2 k hn2, hI.trunc j3 j2.wf hn1, j4, env_keep (env_frz j2 j5 k n) live, rfl, j6⟩
  | rangeFunc g ps asg body iha ihb =>
    intro F n0 Inv hF hI hRf Y hY ic htr K E Rt Q hQ hE hR a w hl
    simp only [trC] at htr
    split at htr
    · rename_i g' ix iy hg hx hy
      split at htr
      · rename_i hps
        simp only [Option.some.injEq] at htr
        cases ic <;> simp [IC.erase] at htr
        obtain ⟨rfl, rfl, rfl, rfl⟩ := htr
        exact rfn_sound hIt hF hI hRf hg hps (fun hF hI hRf => iha hF hI hRf noY_ok hx) (fun hF hI hRf => ihb hF hI hRf noY_ok hy) hQ hE hR hl
      · cases htr
    · cases htr
  | exit id =>
    intro F n0 Inv hF hI hRf Y hY ic htr K E Rt Q hQ hE hR a w hl
    simp only [trC, Option.some.injEq] at htr
    cases ic <;> simp [IC.erase] at htr
    subst htr
    exact wpIn_exit (hE id a w hl)
  | scope x ihx =>
    intro F n0 Inv hF hI hRf Y hY ic htr K E Rt Q hQ hE hR a w hl
    exact wpIn_scope (ihx (Q := Exit.noGoto Q) hF hI hRf hY htr (fun a w h => hQ a w h) (fun id a w h => hE id a w h) (fun a w h => hR a w h) hl)
  | goto l => intro F n0 Inv hF hI hRf Y hY ic htr; simp [trC] at htr
  | ret =>
    intro F n0 Inv hF hI hRf Y hY ic htr K E Rt Q hQ hE hR a w hl
    simp only [trC, Option.some.injEq] at htr
    cases ic <;> simp [IC.erase] at htr
    exact wpIn_ret (hR a w hl)
  | refuse why => intro F n0 Inv hF hI hRf Y hY ic htr; simp [trC] at htr

end
end Go.Ab
