/- The abstract layer, part 20: steps that turn a loop's record; the contracts of functions that are ranged over. -/
import Derived.Test.YtchmfamkpfaieaaAbJ
set_option linter.unusedVariables false
set_option linter.unusedSimpArgs false
namespace Go.Ab
open Go

/-- As 'Ext', but the blocks of S may have been turned. -/
structure ExtA (S : Nat → Prop) (C C' : Cx) : Prop where
  os : C'.w.os = C.w.os
  tape : C'.w.tape = C.w.tape
  output : C'.w.output = C.w.output
  size : C.w.heap.size ≤ C'.w.heap.size
  frame : ∀ b, b < C.w.heap.size → (∀ i p : Nat, C.ρ[i]? ≠ some (b, p)) → ¬ S b → C'.w.heap[b]? = C.w.heap[b]?
  z : ∀ b, C.Z b → C'.Z b
  nz : ∀ b, C'.Z b → C.Z b ∨ C.w.heap.size ≤ b
  nρ : ∀ (i b p : Nat), C'.ρ[i]? = some (b, p) → (∃ q, C.ρ[i]? = some (b, q)) ∨ C.w.heap.size ≤ b
  vs : ∀ (i v : Nat), C.vs[i]? = some v → ∃ v', C'.vs[i]? = some v' ∧ v ≤ v'
  same : ∀ (i v b p : Nat), C.vs[i]? = some v → C'.vs[i]? = some v → C.ρ[i]? = some (b, p) → C'.ρ[i]? = some (b, p) ∧
    ∀ cc t, C.w.heap[b]? = some (.cells cc t (0, 0)) → ∃ cc', C'.w.heap[b]? = some (.cells cc' t (0, 0)) ∧ cc'.size = cc.size

theorem Ext.toA {C C' : Cx} (h : Ext C C') (S : Nat → Prop) : ExtA S C C' :=
  ⟨h.os, h.tape, h.output, h.size, fun b hb hn _ => h.frame b hb hn, h.z, h.nz, h.nρ, h.vs, h.same⟩

theorem ExtA.toExt {C C' : Cx} {S : Nat → Prop} (h : ExtA S C C') (hS : ∀ b, S b → C.w.heap.size ≤ b) : Ext C C' :=
  ⟨h.os, h.tape, h.output, h.size, fun b hb hn => h.frame b hb hn (fun hs => by have := hS b hs; omega), h.z, h.nz, h.nρ, h.vs, h.same⟩

theorem ExtA.trans {A B D : Cx} {S T : Nat → Prop} (h : ExtA S A B) (k : ExtA T B D) (hT : ∀ b, T b → S b ∨ A.w.heap.size ≤ b) : ExtA S A D where
  os := k.os.trans h.os
  tape := k.tape.trans h.tape
  output := k.output.trans h.output
  size := Nat.le_trans h.size k.size
  frame := fun b hb hn hs => by
    have h1 := h.frame b hb hn hs
    refine (k.frame b (Nat.lt_of_lt_of_le hb h.size) (fun i p hi => ?_) (fun ht => ?_)).trans h1
    · rcases h.nρ i b p hi with ⟨q, h2⟩ | h2
      · exact hn i q h2
      · omega
    · rcases hT b ht with h2 | h2
      · exact hs h2
      · omega
  z := fun b hb => k.z b (h.z b hb)
  nz := fun b hb => by
    rcases k.nz b hb with h1 | h1
    · exact h.nz b h1
    · exact .inr (Nat.le_trans h.size h1)
  nρ := fun i b p hi => by
    rcases k.nρ i b p hi with ⟨q, h1⟩ | h1
    · exact h.nρ i b q h1
    · exact .inr (Nat.le_trans h.size h1)
  vs := fun i v hv => by
    obtain ⟨v1, h1, l1⟩ := h.vs i v hv
    obtain ⟨v2, h2, l2⟩ := k.vs i v1 h1
    exact ⟨v2, h2, Nat.le_trans l1 l2⟩
  same := fun i v b p hv hv' hb => by
    obtain ⟨v1, h1, l1⟩ := h.vs i v hv
    obtain ⟨v2, h2, l2⟩ := k.vs i v1 h1
    rw [hv'] at h2
    cases h2
    obtain rfl : v1 = v := by omega
    obtain ⟨p1, q1⟩ := h.same i v1 b p hv h1 hb
    obtain ⟨p2, q2⟩ := k.same i v1 b p h1 hv' p1
    refine ⟨p2, fun cc t hc => ?_⟩
    obtain ⟨cc1, hc1, e1⟩ := q1 cc t hc
    obtain ⟨cc2, hc2, e2⟩ := q2 cc1 t hc1
    exact ⟨cc2, hc2, e2.trans e1⟩

theorem ExtA.refl (S : Nat → Prop) (C : Cx) : ExtA S C C := (Ext.refl C).toA S

theorem ExtA.len {C C' : Cx} {S : Nat → Prop} (h : ExtA S C C') : C.vs.length ≤ C'.vs.length := by
  by_cases h0 : C.vs.length = 0
  · omega
  · have hlt : C.vs.length - 1 < C.vs.length := by omega
    obtain ⟨v', h1, -⟩ := h.vs (C.vs.length - 1) _ (List.getElem?_eq_getElem hlt)
    have := (List.getElem?_eq_some_iff.1 h1).1
    omega

/-- A block of S is a stranger still. -/
theorem ExtA.apart {C C' : Cx} {S : Nat → Prop} (h : ExtA S C C') {b : Nat} (hb : b < C.w.heap.size) (hρ : ∀ i p : Nat, C.ρ[i]? ≠ some (b, p)) (hz : ¬ C.Z b) :
    b < C'.w.heap.size ∧ (∀ i p : Nat, C'.ρ[i]? ≠ some (b, p)) ∧ ¬ C'.Z b :=
  ⟨Nat.lt_of_lt_of_le hb h.size, fun i p hi => by
    rcases h.nρ i b p hi with ⟨q, hq⟩ | hq
    · exact hρ i q hq
    · omega, fun hz' => by
    rcases h.nz b hz' with hq | hq
    · exact hz hq
    · omega⟩

theorem VR.extA {C C' : Cx} {S : Nat → Prop} (e : ExtA S C C') (wf : Wf C) (hS : ∀ b, S b → ¬ C.Z b) {x : V} {c : Value} (h : VR C x c) : VR C' x c := by
  have zs : ∀ {b : Nat}, C.Z b → C'.w.heap[b]? = C.w.heap[b]? := fun {b} hz =>
    e.frame b (wf.zlt b hz) (fun i p hi => wf.zρ i b p hi hz) (fun hs => hS b hs hz)
  induction h with
  | u c => exact .u c
  | b x => exact .b x
  | i k n => exact .i k n
  | str s => exact .str s
  | np => exact .np
  | p id ver off blk bs h hv =>
    obtain ⟨v', hv', l⟩ := e.vs id ver hv
    by_cases he : v' = ver
    · subst he
      exact .p id v' off blk bs (e.same id v' blk bs hv hv' h).1 hv'
    · exact .p0 id ver off v' _ rfl hv' (by omega)
  | p0 id ver off v c h1 hv hl =>
    obtain ⟨v', hv', l⟩ := e.vs id v hv
    exact .p0 id ver off v' c h1 hv' (by omega)
  | sp cells off blk base cs hz hl h1 hc hv ih =>
    refine .sp cells off blk base cs (e.z _ hz) hl h1 (fun j c hj => ?_) (fun j x c hx hc' => ih j x c hx hc')
    rw [cell?_of_heap (w := C.w) (zs hz)]
    exact hc j c hj
  | s id ver off len es blk bs at_ cap cc t h hv hlc hb hs ha =>
    obtain ⟨v', hv', l⟩ := e.vs id ver hv
    by_cases he : v' = ver
    · subst he
      obtain ⟨p1, q1⟩ := e.same id v' blk bs hv hv' h
      obtain ⟨cc', hc', e'⟩ := q1 cc t hb
      exact .s id v' off len es blk bs at_ cap cc' t p1 hv' hlc hc' (by omega) ha
    · exact .s0 id ver off len es v' _ rfl hv' (by omega)
  | s0 id ver off len es v c h1 hv hl =>
    obtain ⟨v', hv', l⟩ := e.vs id v hv
    exact .s0 id ver off len es v' c h1 hv' (by omega)
  | ss0 a cap => exact .ss0 a cap
  | ssn a => exact .ssn a
  | ss cells len full blk base cap cs hz hl h1 hc hv hlc hf ih =>
    refine .ss cells len full blk base cap cs (e.z _ hz) hl h1 (fun j c hj => ?_) (fun j x c hx hc' => ih j x c hx hc') hlc hf
    rw [cell?_of_heap (w := C.w) (zs hz)]
    exact hc j c hj
  | nm => exact .nm
  | m id blk bs h hv =>
    obtain ⟨v', hv', l⟩ := e.vs id 0 hv
    by_cases he : v' = 0
    · subst he
      exact .m id blk bs (e.same id 0 blk bs hv hv' h).1 hv'
    · exact .m0 id v' _ rfl hv' (by omega)
  | m0 id v c h1 hv hl =>
    obtain ⟨v', hv', l⟩ := e.vs id v hv
    exact .m0 id v' c h1 hv' (by omega)
  | sm l blk es clock hz hb hl hk hv ihk ihv =>
    exact .sm l blk es clock (e.z _ hz) ((zs hz).trans hb) hl ihk ihv
  | nf => exact .nf
  | f fn first cap cf cc hl1 hl2 h1 h2 ih1 ih2 => exact .f fn first cap cf cc hl1 hl2 ih1 ih2
  | agg cells cs hl h1 hv ih => exact .agg cells cs hl h1 ih
  | tup vs cs hl hv ih => exact .tup vs cs hl ih

theorem truncA {C0 C : Cx} {S : Nat → Prop} {n : Nat} (h : ExtA S C0 C) (wf0 : Wf C0) (hn : C0.vs.length ≤ n) : ExtA S C0 (C.trunc n) where
  os := h.os
  tape := h.tape
  output := h.output
  size := h.size
  frame := h.frame
  z := fun b hb => .inl (h.z b hb)
  nz := fun b hb => by
    rcases hb with hb | ⟨i, p, hi, hp⟩
    · exact h.nz b hb
    · rcases h.nρ i b p hp with ⟨q, hq⟩ | hs
      · have := (List.getElem?_eq_some_iff.1 hq).1
        have := wf0.len
        omega
      · exact .inr hs
  nρ := fun i b p hi => h.nρ i b p (get_take hi).2
  vs := fun i v hv => by
    obtain ⟨v', h1, h2⟩ := h.vs i v hv
    have := (List.getElem?_eq_some_iff.1 hv).1
    exact ⟨v', take_get (by omega) h1, h2⟩
  same := fun i v b p hv hv' hb => by
    have := (List.getElem?_eq_some_iff.1 hv).1
    obtain ⟨h1, h2⟩ := h.same i v b p hv (get_take hv').2 hb
    exact ⟨take_get (by omega) h1, h2⟩

/-- One stranger's block is turned. -/
theorem R.put {C : Cx} {σ : List O} (h : R C σ) {l : Nat} (hl : l < C.w.heap.size) (hρ : ∀ i p : Nat, C.ρ[i]? ≠ some (l, p)) (hz : ¬ C.Z l) (o : Obj) :
    R (C.world (C.w.putObj l o)) σ ∧ ExtA (· = l) C (C.world (C.w.putObj l o)) ∧ (C.w.putObj l o).heap[l]? = some o := by
  have hne : ∀ b, b ≠ l → (C.w.putObj l o).heap[b]? = C.w.heap[b]? := fun b hb => World.putObj_heap_other hb
  have e : ExtA (· = l) C (C.world (C.w.putObj l o)) := {
    os := rfl, tape := rfl, output := rfl
    size := by simp [Cx.world]
    frame := fun b hb hn hs => hne b hs
    z := fun b hb => hb, nz := fun b hb => .inl hb, nρ := fun i b p hi => .inl ⟨p, hi⟩, vs := fun i v hv => ⟨v, hv, Nat.le_refl _⟩
    same := fun i v b p hv hv' hb => ⟨hb, fun cc t hc => ⟨cc, (hne b (fun hE => hρ i p (hE ▸ hb))).trans hc, rfl⟩⟩ }
  refine ⟨⟨world_wf h.wf (by simp), h.len, h.ver, fun id x blk bs hx hb => ?_⟩, e, World.putObj_heap_same hl⟩
  have hvr : ∀ {x : V} {c : Value}, VR C x c → VR (C.world (C.w.putObj l o)) x c := fun hv => hv.extA e h.wf (fun b hb => hb ▸ hz)
  have hh : (C.w.putObj l o).heap[blk]? = C.w.heap[blk]? := hne blk (fun hE => hρ id bs (hE ▸ hb))
  have hOR := h.obj id x blk bs hx hb
  cases hOR with
  | row ver cells cc t hb hl h1 hv => exact .row ver cells cc t (hh.trans hb) hl h1 (fun j x c a b => hvr (hv j x c a b))
  | map es clock ces hb hl hv => exact .map es clock ces (hh.trans hb) hl (fun j b k v en a c => let ⟨x, y, z⟩ := hv j b k v en a c; ⟨x, hvr y, hvr z⟩)
  | it mid since seen stepped mb h0 hm hb => exact .it mid since seen stepped mb h0 (hvr hm) (hh.trans hb)
  | dead ver => exact .dead ver

/-- What is asked of what is carried along, that a range over a function may stand there. -/
def RfnOK (It : ItTy) (P : Program) (F : Fence) (Inv : Md → Cx → List Deferred → Prop) : Prop :=
  (∃ f first cap xs Pre, It f first cap xs Pre) → ∀ (md : Md) (C : Cx) (D : List Deferred) (fn : FuncId) (tmps : Array Value) (ps : Array Tmp) (asg body : Code), Wf C → Inv md C D →
    ∃ l mark w1 dd, (Instr.enterLoop fn tmps ps asg body F.round).run P C.w = .ok (l, mark) w1 ∧ w1.os = C.w.os ∧ w1.tape = C.w.tape ∧ w1.output = C.w.output ∧ C.w.heap.size ≤ l ∧ l < w1.heap.size ∧
      (∀ b, b < C.w.heap.size → w1.heap[b]? = C.w.heap[b]?) ∧ w1.heap[l]? = some (.loop { state := .ready, pending := none, fn := fn, tmps := tmps, params := ps, assign := asg, body := body, defers := dd }) ∧
      ∀ C', ExtA (· = l) (C.world w1) C' → Inv md C' (mark ++ D)

/-- The contract of a function that is ranged over, at the level of the machine: 'J i': what holds when i have been yielded; 'Dn j': when the loop has been left by the jump j. -/
def ItOK (P : Program) (It : ItTy) : Prop :=
  ∀ (f : FuncId) (first cap : List V) (xs : List (List V)) (Pre : List O → Prop), It f first cap xs Pre →
    (∃ fn, P.funcs[f]? = some fn ∧ fn.name ≠ "runtime.NumGoroutine" ∧ fn.body.isSome = true) ∧
    ∀ (Inv : Md → Cx → List Deferred → Prop) (Y : Yield) (J Dn : Nat → List O → Prop) (C : Cx) (σ : List O) (l : Nat) (cargs : List Value), InvOK σ.length Inv → YOK P Fence.wide Inv Y → R C σ → Inv none C [] → J 0 σ → (∀ i σ, J i σ → Pre σ) →
      VRl C (first ++ [V.f (.yield l) [] []] ++ cap) cargs →
      (∀ i x σ' (Kont : Md → V → List O → Prop), xs[i]? = some x → J i σ' → (∀ σ'', J (i + 1) σ'' → Kont none (.b true) σ'') → (∀ j σ'', Dn j σ'' → Kont (some j) (.b false) σ'') → Y l x σ' Kont) →
      CallsIn Fence.wide 0 P f cargs.toArray C.w (fun e w' => ∃ C' cv md σ', C'.w = w' ∧ e = .returned cv ∧ R C' σ' ∧ Inv md C' [] ∧ (match md with | none => J xs.length σ' | some j => Dn j σ'))

theorem exitK_const {env env' : Env} {md : Md} {σ : List O} {id : Nat} : ∀ {E : List (Nat × Kt)}, exitK (constE env E) id md env' σ = exitK E id md env σ
  | [] => rfl
  | (i, K) :: r => by
    simp only [constE, exitK, constK]
    split
    · rfl
    · exact exitK_const

section
variable {P : Program} {F : Fence} {n : Nat} {a : Act} {w : World} {Q : Exit → Act → World → Prop}
theorem wpIn_scope {c : Code} (h : c.wpIn F n P (Exit.noGoto Q) a w) : (Code.scope c).wpIn F n P Q a w := by
  intro b k cs hro hb hr
  have h0 : (lone (b.atR a (.code (.scope c) :: k)) cs w).fenced P F := fenced_calm hb hr rfl
  have s0 : step P (lone (b.atR a (.code (.scope c) :: k)) cs w) = .next (lone (b.atR a (.code c :: .inScope c :: k)) cs w) := step_lone_go (by simp [stepG, stepG.exec, Frame.atR])
  have s1 : ∀ a w, step P (lone (b.atR a (.inScope c :: k)) cs w) = .next (lone (b.atR a k) cs w) := fun a w => step_lone_go (by simp [stepG, stepG.exec, Frame.atR])
  obtain ⟨e, a₁, w₁, hq, harr⟩ := h b (.inScope c :: k) cs hro hb hr
  cases e with
  | normal => exact ⟨.normal, a₁, w₁, hq, .head h0 s0 (StepsIn.trans harr (.one (fenced_calm hb hr rfl) (s1 _ _)))⟩
  | exit id =>
    have hx : exitTo id (.inScope c :: k) = exitTo id k := by simp [exitTo]
    exact ⟨.exit id, a₁, w₁, hq, fun k' hk => .head h0 s0 (harr.1 k' (by rw [hx]; exact hk)),
      fun hr' hk => let ⟨k₁, h1, h2⟩ := harr.2 hr' (by rw [hx]; exact hk); ⟨k₁, h1, .head h0 s0 h2⟩⟩
  | goto l => exact hq.elim
  | ret => exact ⟨_, a₁, w₁, hq, .of_steps (.one h0 s0) harr⟩
  | panic ch => exact ⟨_, a₁, w₁, hq, .of_steps (.one h0 s0) harr⟩
  | outgrown => exact ⟨_, a₁, w₁, hq, .of_steps (.one h0 s0) harr⟩
end

end Go.Ab
