import Derived.Test.YtgndegccjhdmmaaGreatPDx4
import Derived.KernelRfl
/- Part 5 of what the theorem in TC rests on: an abstract layer over the calculus, contracts of the functions of the program, and plain facts. -/
set_option linter.unusedVariables false
set_option linter.unusedSimpArgs false
set_option linter.constructorNameAsVariable false
set_option maxHeartbeats 4000000
set_option maxRecDepth 100000
section
namespace Go.Ab
open Go
def Cx.bare (C : Cx) : Cx := { ρ := [], vs := [], Z := C.Z, w := C.w }
theorem bare_R {C : Cx} (wf : Wf C) : R C.bare [] where
 wf := { len := rfl, inj := fun i j b p q hi => by simp [Cx.bare] at hi, lt := fun i b p hi => by simp [Cx.bare] at hi, zlt := wf.zlt, zρ := fun i b p hi => by simp [Cx.bare] at hi }
 len := rfl
 ver := fun id o ho => by simp at ho
 obj := fun id o blk bs ho => by simp at ho
theorem FSpec.frame {P : Program} {f : FuncId} {args : List V} {v : V} {σ : List O} (h : FSpec P f args [] v []) (ha : pureL args = true) (hv : v.pure = true) : FSpec P f args σ v σ := by
 refine ⟨h.1, fun C cargs hR hargs => ?_⟩
 have h0 := h.2 C.bare cargs (bare_R hR.wf) ⟨hargs.1, fun j x c hx hc => (hargs.2 j x c hx hc).pure (C := C) (C' := C.bare) (fun b hb => (hb : C.bare.Z b)) rfl (pureL_get ha hx)⟩
 refine h0.mono ?_
 rintro e w' ⟨C', cv, rfl, rfl, h1, h2, h3⟩
 have hold : ∀ b, b < C.w.heap.size → C'.w.heap[b]? = C.w.heap[b]? := fun b hb => h2.frame b hb (fun i p hi => by simp [Cx.bare] at hi)
 have hz' : ∀ b, C'.Z b → C.Z b ∨ C.w.heap.size ≤ b := h2.nz
 let D : Cx := { ρ := C.ρ, vs := C.vs, Z := C'.Z, w := C'.w }
 have e : Ext C D := {
  os := h2.os, tape := h2.tape, output := h2.output, size := h2.size
  frame := fun b hb _ => hold b hb
  z := h2.z, nz := h2.nz
  nρ := fun i b p hi => .inl ⟨p, hi⟩
  vs := fun i v hv => ⟨v, hv, Nat.le_refl _⟩
  same := fun i v b p hv hv' hb => ⟨hb, fun cc t hc => ⟨cc, (hold b (hR.wf.lt i b p hb)).trans hc, rfl⟩⟩ }
 refine ⟨D, cv, rfl, rfl, ⟨⟨hR.wf.len, hR.wf.inj, fun i b p hi => Nat.lt_of_lt_of_le (hR.wf.lt i b p hi) h2.size, h1.wf.zlt, fun i b p hi hz => ?_⟩, hR.len, hR.ver, fun id o blk bs ho hb => ?_⟩, e, ?_⟩
 ·rcases hz' b hz with h4 | h4
  ·exact hR.wf.zρ i b p hi h4
  ·have := hR.wf.lt i b p hi; omega
 ·exact (hR.obj id o blk bs ho hb).ext e hR.wf (hold blk (hR.wf.lt id blk bs hb))
 ·exact h3.pure (C := C') (C' := D) (fun b hb => (hb : D.Z b)) rfl hv
mutual
def V.flat : V → Bool
 | .u => true
 | .b _ => true
 | .i _ _ => true
 | .str _ => true
 | .np => true
 | .nm => true
 | .nf => true
 | .agg cs => flatL cs
 | .tup vs => flatL vs
 | _ => false
def flatL : List V → Bool
 | [] => true
 | v :: r => v.flat && flatL r
end
theorem flatL_all : ∀ {l : List V}, flatL l = true ↔ ∀ v ∈ l, v.flat = true
 | [] => by simp [flatL]
 | v :: r => by simp [flatL, flatL_all (l := r)]
theorem VR.flat {C D : Cx} {x : V} {c : Value} (h : VR C x c) (hf : x.flat = true) : VR D x c := by
 induction h with
 | u c => exact .u c
 | b x => exact .b x
 | i k n => exact .i k n
 | str s => exact .str s
 | np => exact .np
 | nm => exact .nm
 | nf => exact .nf
 | agg cells cs hl h1 hv ih =>
  simp only [V.flat] at hf
  exact .agg cells cs hl h1 (fun j x c hx hc => ih j x c hx hc (flatL_all.1 hf x (List.mem_of_getElem? hx)))
 | tup vs cs hl hv ih =>
  simp only [V.flat] at hf
  exact .tup vs cs hl (fun j x c hx hc => ih j x c hx hc (flatL_all.1 hf x (List.mem_of_getElem? hx)))
 | _ => simp [V.flat] at hf
theorem FSpec.frozen {P : Program} {f : FuncId} {args : List V} {v : V} {σ : List O} (k : Nat) (h : FSpec P f (args.map (frz k 0 σ)) [] v []) (hv : v.flat = true) : FSpec P f args σ v σ := by
 refine ⟨h.1, fun C cargs hR hargs => ?_⟩
 have hR0 : R (C.trunc 0) [] := by
  have := frzS_sound (n := 0) hR k (Nat.zero_le _)
  simpa [frzS] using this
 have h0 := h.2 (C.trunc 0) cargs hR0 ⟨by simpa using hargs.1, fun j x c hx hc => by
  rw [List.getElem?_map, Option.map_eq_some_iff] at hx
  obtain ⟨y, hy, rfl⟩ := hx
  exact frz_sound hR k (hargs.2 j y c hy hc)⟩
 refine h0.mono ?_
 rintro e w' ⟨C', cv, rfl, rfl, h1, h2, h3⟩
 have hold : ∀ b, b < C.w.heap.size → C'.w.heap[b]? = C.w.heap[b]? := fun b hb => h2.frame b hb (fun i p hi => by simp [Cx.trunc] at hi)
 obtain ⟨h4, h5⟩ := hR.quiet (w' := C'.w) h2.os h2.tape h2.output h2.size hold
 exact ⟨C.world C'.w, cv, rfl, rfl, h4, h5, h3.flat hv⟩
structure Fn_ (P : Program) (f : FuncId) (fn : Func) (ex : List Nat) (ic : IC) (rs : List IRes) : Prop where
 hf : P.funcs[f]? = some fn
 hn : fn.name ≠ "runtime.NumGoroutine"
 hc : fn.body.bind (trC P fn.ntmps ex) = some ic.erase
 hr : trRes P fn.results.toList = some rs
theorem Fn_.spec {P : Program} {It : ItTy} (hm : P.follows .mixedOrders = true) (hIt : ItOK P It) {f : FuncId} {fn : Func} {ex : List Nat} {ic : IC} {rs : List IRes} (h : Fn_ P f fn ex ic rs)
  {args : List V} {σ : List O} {v : V} {σ' : List O} (hab : ab P noY It σ.length ic (finK rs σ v σ') [] (finK rs σ v σ') (some 0) (entry 0 args) σ) : FSpec P f args σ v σ' := by
 have hc := h.hc
 cases hb : fn.body with
 | none => rw [hb] at hc; cases hc
 | some c =>
  rw [hb] at hc
  exact FSpec_of_ab hm hIt h.hf h.hn hb (Nat.le_refl _) hc h.hr hab
theorem Fn_.specQ {P : Program} {It : ItTy} (hm : P.follows .mixedOrders = true) (hIt : ItOK P It) {f : FuncId} {fn : Func} {ex : List Nat} {ic : IC} {rs : List IRes} (h : Fn_ P f fn ex ic rs)
  {args : List V} {σ : List O} {Q : V → List O → Prop} (hab : ab P noY It σ.length ic (finQ rs σ Q) [] (finQ rs σ Q) (some 0) (entry 0 args) σ) : FSpecQ P f args σ Q := by
 have hc := h.hc
 cases hb : fn.body with
 | none => rw [hb] at hc; cases hc
 | some c =>
  rw [hb] at hc
  exact FSpecQ_of_ab hm hIt h.hf h.hn hb (Nat.le_refl _) hc h.hr hab
theorem FSpecQ.imp {P : Program} {f : FuncId} {args : List V} {σ : List O} {Q Q' : V → List O → Prop} (h : FSpecQ P f args σ Q) (hq : ∀ v σ', Q v σ' → Q' v σ') : FSpecQ P f args σ Q' :=
 ⟨h.1, fun C cargs hR ha => (h.2 C cargs hR ha).mono fun e w' ⟨C', cv, v, σ', h0, h1⟩ => ⟨C', cv, v, σ', hq v σ' h0, h1⟩⟩
theorem FSpecQ.point {P : Program} {f : FuncId} {args : List V} {σ σ' : List O} {v : V} (h : FSpecQ P f args σ fun v' σ'' => v' = v ∧ σ'' = σ') : FSpec P f args σ v σ' :=
 ⟨h.1, fun C cargs hR ha => (h.2 C cargs hR ha).mono fun e w' ⟨C', cv, v1, σ1, ⟨h0, h0'⟩, h1⟩ => ⟨C', cv, by rw [← h0, ← h0']; exact h1⟩⟩
theorem Fn_.spec0 {P : Program} {It : ItTy} {f : FuncId} {fn : Func} {ex : List Nat} {ic : IC} {rs : List IRes} (h : Fn_ P f fn ex ic rs) (hm : P.follows .mixedOrders = true) (hIt : ItOK P It)
  {args : List V} {v : V} (hab : ab P noY It 0 ic (finK rs [] v []) [] (finK rs [] v []) (some 0) (entry 0 args) []) : FSpec P f args [] v [] := h.spec hm hIt hab
theorem Fn_.iter {P : Program} (hm : P.follows .mixedOrders = true) {f : FuncId} {fn : Func} {ex : List Nat} {ic : IC} (h : Fn_ P f fn ex ic []) {first cap : List V} {Ny : Nat} {X : Nat → List V → List O → List O → Prop} {Pre : List O → Prop}
  (hab : ∀ (J Dn : Nat → List O → Prop) (σ : List O) (l : Nat), (∀ i σ, J i σ → Pre σ) → J 0 σ → LtAll σ →
   ab P (yieldsK l Ny X J Dn) noIt σ.length ic (finI σ.length (J Ny) Dn) [] (finI σ.length (J Ny) Dn) none (entry 0 (first ++ [V.f (.yield l) [] []] ++ cap)) σ) :
  (∃ fn, P.funcs[f]? = some fn ∧ fn.name ≠ "runtime.NumGoroutine" ∧ fn.body.isSome = true) ∧
  ∀ (Inv : Md → Cx → List Deferred → Prop) (Y : Yield) (J Dn : Nat → List O → Prop) (C : Cx) (σ : List O) (l : Nat) (cargs : List Value), InvOK σ.length Inv → YOK P Fence.wide Inv Y → R C σ → Inv none C [] → J 0 σ → (∀ i σ, J i σ → Pre σ) →
   VRl C (first ++ [V.f (.yield l) [] []] ++ cap) cargs →
   (∀ i x σ' g' (Kont : Md → V → List O → Prop), i < Ny → X i x σ' g' → J i σ' → (∀ σ'', J (i + 1) σ'' → Kont none (.b true) σ'') → (∀ j σ'', Dn j σ'' → Kont (some j) (.b false) σ'') → Y l x (σ' ++ g') Kont) →
   CallsIn Fence.wide 0 P f cargs.toArray C.w (fun e w' => ∃ C' cv md σ', C'.w = w' ∧ e = .returned cv ∧ R C' σ' ∧ Inv md C' [] ∧ (match md with | none => J Ny σ' | some j => Dn j σ')) := by
 have hc := h.hc
 have hr : fn.results = #[] := by
  have := h.hr
  cases hl : fn.results.toList with
  | nil => rw [← Array.toList_inj, hl]
  | cons a r =>
   rw [hl] at this
   cases a with
   | tmp t => simp [trRes] at this
   | cell b t => simp only [trRes] at this; split at this <;> cases this
 cases hb : fn.body with
 | none => rw [hb] at hc; cases hc
 | some c =>
  rw [hb] at hc
  exact It_of_ab hm h.hf h.hn hb (Nat.le_refl _) hc hr hab
theorem Fn_.ys {P : Program} (hm : P.follows .mixedOrders = true) {f : FuncId} {fn : Func} {ex : List Nat} {ic : IC} {rs : List IRes} (h : Fn_ P f fn ex ic rs) {args : List V} {s1 g : List O} {n0 l Ny : Nat} {X : Nat → List V → List O → List O → Prop} {Pre : List O → Prop}
  (hab : ∀ (J Dn : Nat → List O → Prop), (∀ i σ, J i σ → Pre σ) → J 0 s1 → LtAll (s1 ++ g) →
   ab P (yieldsK l Ny X J Dn) noIt n0 ic (finY rs n0 (J Ny) Dn) [] (finY rs n0 (J Ny) Dn) none (entry 0 args) (s1 ++ g)) : YS P f args s1 g n0 l Ny X Pre := by
 have hc := h.hc
 cases hb : fn.body with
 | none => rw [hb] at hc; cases hc
 | some c =>
  rw [hb] at hc
  exact YS_of_ab hm h.hf h.hn hb (Nat.le_refl _) hc h.hr hab
def ev (env : Env) : Od → V
 | .t n => get env n
 | .c v => v
 | .fn f => .f (.func f) [] []
def evs (env : Env) : List Od → List V
 | [] => []
 | x :: r => ev env x :: evs env r
def evP (env : Env) : List (Nat × Nat × Od) → List (Nat × Nat × V)
 | [] => []
 | (o, s, x) :: r => (o, s, ev env x) :: evP env r
def evO (env : Env) : Option Od → Option V
 | none => none
 | some x => some (ev env x)
theorem ev_eq {env : Env} {x : Od} : Od.ev (get env) x = ev env x := by cases x <;> rfl
theorem evs_eq {env : Env} : ∀ {l : List Od}, l.map (Od.ev (get env)) = evs env l
 | [] => rfl
 | x :: r => by simp only [List.map_cons, ev_eq, evs_eq (l := r), evs]
theorem evP_eq {env : Env} : ∀ {l : List (Nat × Nat × Od)}, (l.map fun p => (p.1, p.2.1, Od.ev (get env) p.2.2)) = evP env l
 | [] => rfl
 | (o, s, x) :: r => by rw [List.map_cons, evP_eq (l := r)]; simp only [ev_eq, evP]
theorem evO_eq {env : Env} {x : Option Od} : x.map (Od.ev (get env)) = evO env x := by cases x <;> simp [evO, ev_eq]
@[simp] theorem ev_t {env n} : ev env (.t n) = get env n := (rfl)
@[simp] theorem ev_c {env v} : ev env (.c v) = v := (rfl)
@[simp] theorem ev_fn {env f} : ev env (.fn f) = .f (.func f) [] [] := (rfl)
@[simp] theorem evs_nil {env} : evs env [] = [] := (rfl)
@[simp] theorem evs_cons {env x r} : evs env (x :: r) = ev env x :: evs env r := (rfl)
@[simp] theorem evP_nil {env} : evP env [] = [] := (rfl)
@[simp] theorem evP_cons {env o s x r} : evP env ((o, s, x) :: r) = (o, s, ev env x) :: evP env r := (rfl)
@[simp] theorem evO_none {env} : evO env none = none := (rfl)
@[simp] theorem evO_some {env x} : evO env (some x) = some (ev env x) := (rfl)
@[simp] theorem get_eq {t v r} : get ((t, v) :: r) t = v := by simp [get]
@[simp] theorem get_ne {t v r s} (h : t ≠ s) : get ((t, v) :: r) s = get r s := by simp [get, h]
@[simp] theorem del_nil {s} : del [] s = [] := (rfl)
@[simp] theorem del_eq {t v r} : del ((t, v) :: r) t = del r t := by simp [del]
@[simp] theorem del_ne {t v r s} (h : t ≠ s) : del ((t, v) :: r) s = (t, v) :: del r s := by simp [del, h]
@[simp] theorem put_none {env v} : put env none v = env := (rfl)
@[simp] theorem put_some {env d v} : put env (some d) v = (d, v) :: del env d := (rfl)
@[simp] theorem keep_nil {env} : keep env [] = [] := (rfl)
@[simp] theorem keep_cons {env t r} : keep env (t :: r) = (t, get env t) :: keep env r := (rfl)
@[simp] theorem keepO_some {env l} : keepO env (some l) = keep env l := (rfl)
@[simp] theorem entry_nil {i} : entry i [] = [] := (rfl)
@[simp] theorem entry_cons {i v r} : entry i (v :: r) = (i, v) :: entry (i + 1) r := (rfl)
@[simp] theorem puts_nil {env vs} : puts env [] vs = env := by cases vs <;> rfl
@[simp] theorem puts_cons {env p ps v vs} : puts env (p :: ps) (v :: vs) = puts (put env (some p) v) ps vs := (rfl)
abbrev Ct := V → List O → Prop
section
variable {P : Program} {Y : Yield} {It : ItTy} {n0 : Nat} {K : Kt} {E : List (Nat × Kt)} {Rt : Kt} {md : Md} {env : Env} {σ : List O} {C : Ct}
def optC (o : Option V) (σ : List O) (C : Ct) : Prop := match o with | some x => C x σ | none => False
@[simp] theorem optC_some {x} : optC (some x) σ C = C x σ := (rfl)
@[simp] theorem optC_none : optC none σ C = False := (rfl)
theorem optK_get {cs : List V} {off : Nat} : (off < cs.length ∧ C (cs.getD off .u) σ) = optC cs[off]? σ C := by
 by_cases h : off < cs.length
 ·simp [h]
 ·rw [List.getElem?_eq_none (by omega)]; simp [h]
def pickC (c a b : V) (σ : List O) (C : Ct) : Prop := match c with | .b t => C (if t = true then a else b) σ | _ => False
@[simp] theorem pickC_tt {a b} : pickC (.b true) a b σ C = C a σ := (rfl)
@[simp] theorem pickC_ff {a b} : pickC (.b false) a b σ C = C b σ := (rfl)
def boxC (o : Option (List V)) (σ : List O) (C : Ct) : Prop := match o with | some cs => C (.p σ.length 0 0) (σ ++ [.row 0 cs]) | none => False
@[simp] theorem boxC_some {cs} : boxC (some cs) σ C = C (.p σ.length 0 0) (σ ++ [.row 0 cs]) := (rfl)
def bldC (o : Option (List V)) (σ : List O) (C : Ct) : Prop := match o with | some cs => C (.agg cs) σ | none => False
@[simp] theorem bldC_some {cs} : bldC (some cs) σ C = C (.agg cs) σ := (rfl)
def bslC (n : Nat) (o : Option (List V)) (σ : List O) (C : Ct) : Prop := match o with | some cs => C (.ss cs n true) σ | none => False
@[simp] theorem bslC_some {n cs} : bslC n (some cs) σ C = C (.ss cs n true) σ := (rfl)
def ld1C (a : V) (σ : List O) (C : Ct) : Prop := ld1K a σ fun v => C v σ
def rld1 (o : Option O) (ver off : Nat) (σ : List O) (C : Ct) : Prop := match o with | some (.row v cells) => v = ver ∧ optC cells[off]? σ C | _ => False
@[simp] theorem rld1_row {v cells ver off} : rld1 (some (.row v cells)) ver off σ C = (v = ver ∧ optC cells[off]? σ C) := (rfl)
@[simp] theorem ld1C_p {id ver off} : ld1C (.p id ver off) σ C = rld1 σ[id]? ver off σ C := by
 simp only [ld1C, ld1K]
 cases σ[id]? with
 | none => rfl
 | some o => cases o <;> simp [rld1, ← optK_get]
@[simp] theorem ld1C_sp {cells off} : ld1C (.sp cells off) σ C = optC cells[off]? σ C := by
 simp only [ld1C, ld1K, optK_get]
def ldAC (n : Nat) (a : V) (σ : List O) (C : Ct) : Prop := ldAK n a σ fun v => C v σ
def rldA (o : Option O) (n ver off : Nat) (σ : List O) (C : Ct) : Prop := match o with | some (.row v cells) => v = ver ∧ off + n ≤ cells.length ∧ C (.agg ((cells.drop off).take n)) σ | _ => False
@[simp] theorem rldA_row {v cells n ver off} : rldA (some (.row v cells)) n ver off σ C = (v = ver ∧ off + n ≤ cells.length ∧ C (.agg ((cells.drop off).take n)) σ) := (rfl)
@[simp] theorem ldAC_p {n id ver off} : ldAC n (.p id ver off) σ C = rldA σ[id]? n ver off σ C := by
 simp only [ldAC, ldAK]
 cases σ[id]? with
 | none => rfl
 | some o => cases o <;> rfl
@[simp] theorem ldAC_sp {n cells off} : ldAC n (.sp cells off) σ C = (off + n ≤ cells.length ∧ C (.agg ((cells.drop off).take n)) σ) := (rfl)
def rst1 (o : Option O) (id ver off : Nat) (x : V) (σ : List O) (C : Ct) : Prop := match o with | some (.row v cells) => v = ver ∧ off < cells.length ∧ cellsOf x = some [x] ∧ C .u (σ.set id (.row ver (cells.set off x))) | _ => False
@[simp] theorem rst1_row {v cells id ver off x} : rst1 (some (.row v cells)) id ver off x σ C = (v = ver ∧ off < cells.length ∧ cellsOf x = some [x] ∧ C .u (σ.set id (.row ver (cells.set off x)))) := (rfl)
@[simp] theorem st1K_p {id ver off x} : st1K (.p id ver off) x σ C = rst1 σ[id]? id ver off x σ C := by
 simp only [st1K]
 cases σ[id]? with
 | none => rfl
 | some o =>
  cases o with
  | row v cells => simp only [rst1, eq_iff_iff]; constructor <;> (rintro ⟨rfl, h⟩; exact ⟨rfl, h⟩)
  | map => rfl
  | it => rfl
  | dead => rfl
def rstA (o : Option O) (n id ver off : Nat) (xs : List V) (σ : List O) (C : Ct) : Prop := match o with | some (.row v cells) => v = ver ∧ xs.length = n ∧ off + n ≤ cells.length ∧ C .u (σ.set id (.row ver (splice cells off xs))) | _ => False
@[simp] theorem rstA_row {v cells n id ver off xs} : rstA (some (.row v cells)) n id ver off xs σ C = (v = ver ∧ xs.length = n ∧ off + n ≤ cells.length ∧ C .u (σ.set id (.row ver (splice cells off xs)))) := (rfl)
@[simp] theorem stAK_p {n id ver off xs} : stAK n (.p id ver off) (.agg xs) σ C = rstA σ[id]? n id ver off xs σ C := by
 simp only [stAK]
 cases σ[id]? with
 | none => rfl
 | some o =>
  cases o with
  | row v cells => simp only [rstA, eq_iff_iff]; constructor <;> (rintro ⟨rfl, h⟩; exact ⟨rfl, h⟩)
  | map => rfl
  | it => rfl
  | dead => rfl
def nilC (x : V) (σ : List O) (C : Ct) : Prop := nilcK x σ fun v => C v σ
@[simp] theorem nilC_p {id ver off} : nilC (.p id ver off) σ C = (liveV σ id ver ∧ C (.p id ver off) σ) := (rfl)
@[simp] theorem nilC_sp {cs off} : nilC (.sp cs off) σ C = C (.sp cs off) σ := (rfl)
def binC (op : BinOp) (x y : V) (σ : List O) (C : Ct) : Prop := binK op x y fun v => C v σ
section
variable {k k' : IntKind} {a b : Int}
@[simp] theorem binC_shl : binC .shl (.i k a) (.i k' b) σ C = (0 ≤ b ∧ C (.i k (k.wrap (a * 2 ^ (min b.toNat k.bits)))) σ) := (rfl)
@[simp] theorem binC_shr : binC .shr (.i k a) (.i k' b) σ C = (0 ≤ b ∧ C (.i k (a.fdiv (2 ^ (min b.toNat k.bits)))) σ) := (rfl)
@[simp] theorem binC_add : binC .add (.i k a) (.i k' b) σ C = (k = k' ∧ C (.i k (k.wrap (a + b))) σ) := (rfl)
@[simp] theorem binC_sub : binC .sub (.i k a) (.i k' b) σ C = (k = k' ∧ C (.i k (k.wrap (a - b))) σ) := (rfl)
@[simp] theorem binC_mul : binC .mul (.i k a) (.i k' b) σ C = (k = k' ∧ C (.i k (k.wrap (a * b))) σ) := (rfl)
@[simp] theorem binC_quo : binC .quo (.i k a) (.i k' b) σ C = (k = k' ∧ b ≠ 0 ∧ C (.i k (k.wrap (a.tdiv b))) σ) := (rfl)
@[simp] theorem binC_rem : binC .rem (.i k a) (.i k' b) σ C = (k = k' ∧ b ≠ 0 ∧ C (.i k (a.tmod b)) σ) := (rfl)
@[simp] theorem binC_and : binC .and (.i k a) (.i k' b) σ C = (k = k' ∧ C (.i k (bitop .and k a b)) σ) := (rfl)
@[simp] theorem binC_or : binC .or (.i k a) (.i k' b) σ C = (k = k' ∧ C (.i k (bitop .or k a b)) σ) := (rfl)
@[simp] theorem binC_xor : binC .xor (.i k a) (.i k' b) σ C = (k = k' ∧ C (.i k (bitop .xor k a b)) σ) := (rfl)
@[simp] theorem binC_andNot : binC .andNot (.i k a) (.i k' b) σ C = (k = k' ∧ C (.i k (bitop .andNot k a b)) σ) := (rfl)
@[simp] theorem binC_eql : binC .eql (.i k a) (.i k' b) σ C = (k = k' ∧ C (.b (decide (a = b))) σ) := (rfl)
@[simp] theorem binC_neq : binC .neq (.i k a) (.i k' b) σ C = (k = k' ∧ C (.b (!decide (a = b))) σ) := (rfl)
@[simp] theorem binC_lss : binC .lss (.i k a) (.i k' b) σ C = (k = k' ∧ C (.b (decide (a < b))) σ) := (rfl)
@[simp] theorem binC_leq : binC .leq (.i k a) (.i k' b) σ C = (k = k' ∧ C (.b (decide (a ≤ b))) σ) := (rfl)
@[simp] theorem binC_gtr : binC .gtr (.i k a) (.i k' b) σ C = (k = k' ∧ C (.b (decide (b < a))) σ) := (rfl)
@[simp] theorem binC_geq : binC .geq (.i k a) (.i k' b) σ C = (k = k' ∧ C (.b (decide (b ≤ a))) σ) := (rfl)
end
def eqvC (k : IntKind) (n : Nat) (neq : Bool) (x y : V) (σ : List O) (C : Ct) : Prop := eqvK k n neq x y fun v => C v σ
def eqvO (n : Nat) (neq : Bool) (xl yl : Nat) (a b : Option (List Int)) (σ : List O) (C : Ct) : Prop := match a, b with
 | some a, some b => xl = n ∧ yl = n ∧ C (.b (if neq then !decide (a = b) else decide (a = b))) σ
 | _, _ => False
@[simp] theorem eqvO_some {n xl yl a b} : eqvO n false xl yl (some a) (some b) σ C = (xl = n ∧ yl = n ∧ C (.b (decide (a = b))) σ) := by simp [eqvO]
@[simp] theorem eqvC_agg {k n neq xs ys} : eqvC k n neq (.agg xs) (.agg ys) σ C = eqvO n neq xs.length ys.length (intsK k xs) (intsK k ys) σ C := by
 simp only [eqvC, eqvK, eqvO]
 cases intsK k xs <;> cases intsK k ys <;> rfl
def notC (x : V) (σ : List O) (C : Ct) : Prop := match x with | .b t => C (.b (!t)) σ | _ => False
@[simp] theorem notC_b {t} : notC (.b t) σ C = C (.b (!t)) σ := (rfl)
def comC (x : V) (σ : List O) (C : Ct) : Prop := match x with | .i k n => C (.i k (bitop .xor k (if k.signed then -1 else k.max) n)) σ | _ => False
@[simp] theorem comC_i {k n} : comC (.i k n) σ C = C (.i k (bitop .xor k (if k.signed then -1 else k.max) n)) σ := (rfl)
def convC (k : IntKind) (x : V) (σ : List O) (C : Ct) : Prop := match x with | .i _ n => C (.i k (k.wrap n)) σ | _ => False
@[simp] theorem convC_i {k k' n} : convC k (.i k' n) σ C = C (.i k (k.wrap n)) σ := (rfl)
def mkslC (es bytes : Nat) (zs : List V) (l c : V) (σ : List O) (C : Ct) : Prop := match l, c with
 | .i _ n, .i _ n' => n = n' ∧ 0 ≤ n ∧ n ≤ 281474976710656 ∧ bytes * n ≤ 281474976710656 ∧ C (.s σ.length 0 0 n.toNat es) (σ ++ [.row 0 (rep n.toNat zs)])
 | _, _ => False
@[simp] theorem mkslC_i {es bytes zs k k' n n'} : mkslC es bytes zs (.i k n) (.i k' n') σ C = (n = n' ∧ 0 ≤ n ∧ n ≤ 281474976710656 ∧ bytes * n ≤ 281474976710656 ∧ C (.s σ.length 0 0 n.toNat es) (σ ++ [.row 0 (rep n.toNat zs)])) := (rfl)
def slcC (es : Nat) (x : V) (lo hi m : Option V) (σ : List O) (C : Ct) : Prop := slcK es x lo hi m σ fun v => C v σ
section
variable {es len : Nat} {cells : List V} {full : Bool} {k k' k'' : IntKind} {l h m : Int} {id ver off es' : Nat}
@[simp] theorem slcC_ssHM : slcC es (.ss cells len full) none (some (.i k h)) (some (.i k' m)) σ C = (0 ≤ h ∧ h ≤ m ∧ m ≤ len ∧ C (.ss ((cells.drop (0 * es)).take ((h.toNat - 0) * es)) (h.toNat - 0) (decide (m.toNat = h.toNat))) σ) := (rfl)
@[simp] theorem slcC_sL : slcC es (.s id ver off len es') (some (.i k l)) none none σ C = (es = es' ∧ liveV σ id ver ∧ 0 ≤ l ∧ l ≤ len ∧ C (.s id ver (off + l.toNat * es) (len - l.toNat) es) σ) := (rfl)
@[simp] theorem slcC_sH : slcC es (.s id ver off len es') none (some (.i k h)) none σ C = (es = es' ∧ liveV σ id ver ∧ 0 ≤ h ∧ h ≤ len ∧ C (.s id ver (off + 0 * es) (h.toNat - 0) es) σ) := (rfl)
@[simp] theorem slcC_sHM : slcC es (.s id ver off len es') none (some (.i k h)) (some (.i k' m)) σ C = (es = es' ∧ liveV σ id ver ∧ 0 ≤ h ∧ h ≤ m ∧ m ≤ len ∧ C (.s id ver (off + 0 * es) (h.toNat - 0) es) σ) := (rfl)
end
def slaC (n es : Nat) (x : V) (σ : List O) (C : Ct) : Prop := slaK n es x σ fun v => C v σ
def rsla (o : Option O) (n es id ver off : Nat) (σ : List O) (C : Ct) : Prop := match o with | some (.row v cells) => v = ver ∧ off + n * es ≤ cells.length ∧ C (.s id ver off n es) σ | _ => False
@[simp] theorem rsla_row {v cells n es id ver off} : rsla (some (.row v cells)) n es id ver off σ C = (v = ver ∧ off + n * es ≤ cells.length ∧ C (.s id ver off n es) σ) := (rfl)
@[simp] theorem slaC_p {n es id ver off} : slaC n es (.p id ver off) σ C = rsla σ[id]? n es id ver off σ C := by
 simp only [slaC, slaK]
 cases σ[id]? with
 | none => rfl
 | some o => cases o <;> rfl
def fadC (o : Nat) (x : V) (σ : List O) (C : Ct) : Prop := fadK o x σ fun v => C v σ
@[simp] theorem fadC_p {o id ver off} : fadC o (.p id ver off) σ C = (liveV σ id ver ∧ C (.p id ver (off + o)) σ) := (rfl)
@[simp] theorem fadC_sp {o cells off} : fadC o (.sp cells off) σ C = C (.sp cells (off + o)) σ := (rfl)
def ixaC (n es : Nat) (x i : V) (σ : List O) (C : Ct) : Prop := ixaK n es x i σ fun v => C v σ
@[simp] theorem ixaC_p {n es id ver off k j} : ixaC n es (.p id ver off) (.i k j) σ C = (liveV σ id ver ∧ 0 ≤ j ∧ j < n ∧ C (.p id ver (off + j.toNat * es)) σ) := (rfl)
def ixsC (es : Nat) (x i : V) (σ : List O) (C : Ct) : Prop := ixsK es x i σ fun v => C v σ
@[simp] theorem ixsC_s {es id ver off len es' k j} : ixsC es (.s id ver off len es') (.i k j) σ C = (es = es' ∧ liveV σ id ver ∧ 0 ≤ j ∧ j < len ∧ C (.p id ver (off + j.toNat * es)) σ) := (rfl)
@[simp] theorem ixsC_ss {es cells len full k j} : ixsC es (.ss cells len full) (.i k j) σ C = (0 ≤ j ∧ j < len ∧ C (.sp cells (j.toNat * es)) σ) := (rfl)
def extC (i : Nat) (x : V) (σ : List O) (C : Ct) : Prop := extK i x fun v => C v σ
@[simp] theorem extC_tup {i vs} : extC i (.tup vs) σ C = optC vs[i]? σ C := by simp only [extC, extK, optK_get]
def lenC (x : V) (σ : List O) (C : Ct) : Prop := lenK x σ fun v => C v σ
@[simp] theorem lenC_s {id ver off len es} : lenC (.s id ver off len es) σ C = (liveV σ id ver ∧ C (.i .i64 len) σ) := (rfl)
@[simp] theorem lenC_ss {cells len full} : lenC (.ss cells len full) σ C = C (.i .i64 len) σ := (rfl)
def appTo (es bytes : Nat) (x : V) (σ : List O) (C : Ct) (ys : List V) (m : Nat) : Prop :=
 match x with
 | .ss xs n true => xs.length = n * es ∧ (n + m) * bytes ≤ 140737488355328 ∧
   if m = 0 then C (.ss xs n true) σ else C (.s σ.length 0 0 (n + m) es) (σ ++ [.row 0 (xs ++ ys)])
 | .s id ver off n es' =>
  match σ[id]? with
  | some (.row v cells) => v = ver ∧ es = es' ∧ off + n * es = cells.length ∧ (n + m) * bytes ≤ 140737488355328 ∧
    if m = 0 then C (.s id ver off n es) σ else C (.s id (ver + 1) 0 (n + m) es) (σ.set id (.row (ver + 1) (cells.drop off ++ ys)))
  | _ => False
 | _ => False
def rapp (o : Option O) (es bytes id ver off n es' : Nat) (σ : List O) (C : Ct) (ys : List V) (m : Nat) : Prop :=
 match o with
 | some (.row v cells) => v = ver ∧ es = es' ∧ off + n * es = cells.length ∧ (n + m) * bytes ≤ 140737488355328 ∧
   if m = 0 then C (.s id ver off n es) σ else C (.s id (ver + 1) 0 (n + m) es) (σ.set id (.row (ver + 1) (cells.drop off ++ ys)))
 | _ => False
@[simp] theorem rapp_row {v cells es bytes id ver off n es' ys m} : rapp (some (.row v cells)) es bytes id ver off n es' σ C ys m = (v = ver ∧ es = es' ∧ off + n * es = cells.length ∧ (n + m) * bytes ≤ 140737488355328 ∧
   if m = 0 then C (.s id ver off n es) σ else C (.s id (ver + 1) 0 (n + m) es) (σ.set id (.row (ver + 1) (cells.drop off ++ ys)))) := (rfl)
@[simp] theorem appK_ss {es bytes x ys m full} : appK es bytes x (.ss ys m full) σ C = (ys.length = m * es ∧ appTo es bytes x σ C ys m) := (rfl)
@[simp] theorem appTo_ss {es bytes xs n ys m} : appTo es bytes (.ss xs n true) σ C ys m = (xs.length = n * es ∧ (n + m) * bytes ≤ 140737488355328 ∧
   if m = 0 then C (.ss xs n true) σ else C (.s σ.length 0 0 (n + m) es) (σ ++ [.row 0 (xs ++ ys)])) := (rfl)
@[simp] theorem appTo_s {es bytes id ver off n es' ys m} : appTo es bytes (.s id ver off n es') σ C ys m = rapp σ[id]? es bytes id ver off n es' σ C ys m := by
 simp only [appTo]
 cases σ[id]? with
 | none => rfl
 | some o => cases o <;> rfl
def rclr (o : Option O) (es id ver off n es' : Nat) (zs : List V) (σ : List O) (C : Ct) : Prop := match o with
 | some (.row v cells) => v = ver ∧ es = es' ∧ off + n * es ≤ cells.length ∧ C .u (σ.set id (.row ver (splice cells off (rep n zs))))
 | _ => False
@[simp] theorem rclr_row {v cells es id ver off n es' zs} : rclr (some (.row v cells)) es id ver off n es' zs σ C = (v = ver ∧ es = es' ∧ off + n * es ≤ cells.length ∧ C .u (σ.set id (.row ver (splice cells off (rep n zs))))) := (rfl)
@[simp] theorem clrK_s {es zs id ver off n es'} : clrK es zs (.s id ver off n es') σ C = rclr σ[id]? es id ver off n es' zs σ C := by
 simp only [clrK]
 cases σ[id]? with
 | none => rfl
 | some o =>
  cases o with
  | row v cells => simp only [rclr, eq_iff_iff]; constructor <;> (rintro ⟨rfl, h⟩; exact ⟨rfl, h⟩)
  | map => rfl
  | it => rfl
  | dead => rfl
def lkpC (q : IntKind) (n : Nat) (zs : V) (ok : Bool) (x k : V) (σ : List O) (C : Ct) : Prop := lkpK q n zs ok x k σ fun v => C v σ
def entC (x : V) (σ : List O) (C : Ct) : Prop := entK x σ fun v => C v σ
def evE (env : Env) (σ : List O) (C : Ct) (io : IOp) : Prop := evK (Od.ev (get env)) σ C io
section
variable {x y a b c i k v d s : Od} {xs : List Od} {zs : List V}
@[simp] theorem evE_mov : evE env σ C (.mov x) = C (ev env x) σ := by rw [← ev_eq]; rfl
@[simp] theorem evE_pick : evE env σ C (.pick c a b) = pickC (ev env c) (ev env a) (ev env b) σ C := by
 simp only [evE, evK, ev_eq, pickC]
 cases ev env c <;> rfl
@[simp] theorem evE_alloc : evE env σ C (.alloc zs) = C (.p σ.length 0 0) (σ ++ [.row 0 zs]) := (rfl)
@[simp] theorem evE_box : evE env σ C (.box x) = boxC (cellsOf (ev env x)) σ C := by
 simp only [evE, evK, ev_eq, boxC]
 cases cellsOf (ev env x) <;> rfl
@[simp] theorem evE_build {ps} : evE env σ C (.build zs ps) = bldC (fillV zs (evP env ps)) σ C := by
 simp only [evE, evK, evP_eq, bldC]
 cases fillV zs (evP env ps) <;> rfl
@[simp] theorem evE_bsl {es n ps} : evE env σ C (.bsl true es n zs ps) = bslC n (fillV zs (evP env ps)) σ C := by
 simp only [evE, evK, evP_eq, bslC, if_true]
 cases fillV zs (evP env ps) <;> rfl
@[simp] theorem evE_load1 : evE env σ C (.load1 a) = ld1C (ev env a) σ C := by rw [← ev_eq]; rfl
@[simp] theorem evE_loadA {n} : evE env σ C (.loadA n a) = ldAC n (ev env a) σ C := by rw [← ev_eq]; rfl
@[simp] theorem evE_store1 : evE env σ C (.store1 a x) = st1K (ev env a) (ev env x) σ C := by rw [← ev_eq, ← ev_eq]; rfl
@[simp] theorem evE_storeA {n} : evE env σ C (.storeA n a x) = stAK n (ev env a) (ev env x) σ C := by rw [← ev_eq, ← ev_eq]; rfl
@[simp] theorem evE_nilc : evE env σ C (.nilc x) = nilC (ev env x) σ C := by rw [← ev_eq]; rfl
@[simp] theorem evE_bin {op} : evE env σ C (.bin op x y) = binC op (ev env x) (ev env y) σ C := by rw [← ev_eq, ← ev_eq]; rfl
@[simp] theorem evE_eqv {q n neq} : evE env σ C (.eqv q n neq x y) = eqvC q n neq (ev env x) (ev env y) σ C := by rw [← ev_eq, ← ev_eq]; rfl
@[simp] theorem evE_not : evE env σ C (.not x) = notC (ev env x) σ C := by
 simp only [evE, evK, ev_eq, notC]
 cases ev env x <;> rfl
@[simp] theorem evE_com : evE env σ C (.com x) = comC (ev env x) σ C := by
 simp only [evE, evK, ev_eq, comC]
 cases ev env x <;> rfl
@[simp] theorem evE_conv {q} : evE env σ C (.conv q x) = convC q (ev env x) σ C := by
 simp only [evE, evK, ev_eq, convC]
 cases ev env x <;> rfl
@[simp] theorem evE_mkf {fn as bs} : evE env σ C (.mkf fn as bs) = C (.f fn (evs env as) (evs env bs)) σ := by rw [← evs_eq, ← evs_eq]; rfl
@[simp] theorem evE_mkmap : evE env σ C .mkmap = C (.m σ.length) (σ ++ [.map [] 0]) := (rfl)
@[simp] theorem evE_mksl {es bytes} : evE env σ C (.mksl es bytes zs x y) = mkslC es bytes zs (ev env x) (ev env y) σ C := by
 simp only [evE, evK, ev_eq, mkslC]
 cases ev env x <;> cases ev env y <;> rfl
@[simp] theorem evE_slc {es lo hi m} : evE env σ C (.slc es x lo hi m) = slcC es (ev env x) (evO env lo) (evO env hi) (evO env m) σ C := by rw [← ev_eq, ← evO_eq, ← evO_eq, ← evO_eq]; rfl
@[simp] theorem evE_sla {n es} : evE env σ C (.sla n es x) = slaC n es (ev env x) σ C := by rw [← ev_eq]; rfl
@[simp] theorem evE_fad {o} : evE env σ C (.fad o x) = fadC o (ev env x) σ C := by rw [← ev_eq]; rfl
@[simp] theorem evE_ixa {n es} : evE env σ C (.ixa n es x i) = ixaC n es (ev env x) (ev env i) σ C := by rw [← ev_eq, ← ev_eq]; rfl
@[simp] theorem evE_ixs {es} : evE env σ C (.ixs es x i) = ixsC es (ev env x) (ev env i) σ C := by rw [← ev_eq, ← ev_eq]; rfl
@[simp] theorem evE_ext {n} : evE env σ C (.ext n x) = extC n (ev env x) σ C := by rw [← ev_eq]; rfl
@[simp] theorem evE_len : evE env σ C (.len x) = lenC (ev env x) σ C := by rw [← ev_eq]; rfl
@[simp] theorem evE_app {es bytes} : evE env σ C (.app es bytes x y) = appK es bytes (ev env x) (ev env y) σ C := by rw [← ev_eq, ← ev_eq]; rfl
@[simp] theorem evE_clr {es} : evE env σ C (.clr es zs x) = clrK es zs (ev env x) σ C := by rw [← ev_eq]; rfl
@[simp] theorem evE_lkp {q n z ok} : evE env σ C (.lkp q n z ok x k) = lkpC q n z ok (ev env x) (ev env k) σ C := by rw [← ev_eq, ← ev_eq]; rfl
@[simp] theorem evE_sidx : evE env σ C (.sidx x i) = sidxK (ev env x) (ev env i) fun v => C v σ := by rw [← ev_eq, ← ev_eq]; rfl
@[simp] theorem evE_mset {q n} : evE env σ C (.mset q n x k v) = msetK q n (ev env x) (ev env k) (ev env v) σ C := by rw [← ev_eq, ← ev_eq, ← ev_eq]; rfl
@[simp] theorem evE_mdel {q n} : evE env σ C (.mdel q n x k) = mdelK q n (ev env x) (ev env k) σ C := by rw [← ev_eq, ← ev_eq]; rfl
@[simp] theorem evE_rng : evE env σ C (.rng x) = rngK (ev env x) σ C := by rw [← ev_eq]; rfl
@[simp] theorem evE_nxt : evE env σ C (.nxt x) = nxtK (ev env x) σ C := by rw [← ev_eq]; rfl
@[simp] theorem evE_ent : evE env σ C (.ent x) = entC (ev env x) σ C := by rw [← ev_eq]; rfl
end
@[simp] theorem ab_skip : ab P Y It n0 .skip K E Rt md env σ = K md env σ := (rfl)
@[simp] theorem ab_reg {ops live} : ab P Y It n0 (.reg ops live) K E Rt md env σ = abSs P Y n0 ops (keepK live K) md env σ := (rfl)
@[simp] theorem ab_drw {ops live} : ab P Y It n0 (.drw ops live) K E Rt md env σ = abDs P noY n0 ops 0 [] (keepK live K) md env σ := (rfl)
@[simp] theorem ab_exit {id} : ab P Y It n0 (.exit id) K E Rt md env σ = exitK E id md env σ := (rfl)
@[simp] theorem ab_ret : ab P Y It n0 .ret K E Rt md env σ = Rt md env σ := (rfl)
@[simp] theorem abSs_nil : abSs P Y n0 [] K md env σ = K md env σ := (rfl)
@[simp] theorem abSs_cons {s r} : abSs P Y n0 (s :: r) K md env σ = abS P Y n0 s (abSs P Y n0 r K) md env σ := (rfl)
@[simp] theorem abS_op {dst io} : abS P Y n0 (.op dst none io) K md env σ = evE env σ (kput md env dst K) io := (rfl)
@[simp] theorem abS_call {dst f args} : abS P Y n0 (.call dst none f args) K md env σ = callK P f (evs env args) σ (kput md env dst K) := by rw [← evs_eq]; rfl
@[simp] theorem abS_callv {dst x args} : abS P Y n0 (.callv dst none x args) K md env σ = callvK P Y n0 (ev env x) md env (evs env args) σ dst K := by rw [← evs_eq, ← ev_eq]; rfl
@[simp] theorem abS_callr {dst f args} : abS P Y n0 (.callr dst none f args) K md env σ = callR P f (evs env args) σ (kput md env dst K) := by rw [← evs_eq]; rfl
theorem callR_of {f : FuncId} {args : List V} {Q : V → List O → Prop} {K : V → List O → Prop} (h : FSpecQ P f args σ Q) (hk : ∀ v σ', Q v σ' → K v σ') : callR P f args σ K := ⟨Q, h, hk⟩
def opG (env : Env) (σ : List O) (md : Md) (dst : Option Nat) (K : Kt) (want : Bool) (io : IOp) (v : V) : Prop := match v with | .b b => if b = want then evE env σ (kput md env dst K) io else K md (put env dst (.tup [])) σ | .tup [] => K md (put env dst (.tup [])) σ | _ => False
@[simp] theorem opG_u {dst io} {w : Bool} : opG env σ md dst K w io (.tup []) = K md (put env dst (.tup [])) σ := (rfl)
@[simp] theorem opG_tt {dst io} : opG env σ md dst K true io (.b true) = evE env σ (kput md env dst K) io := (rfl)
@[simp] theorem opG_tf {dst io} : opG env σ md dst K false io (.b true) = K md (put env dst (.tup [])) σ := (rfl)
@[simp] theorem opG_ft {dst io} : opG env σ md dst K true io (.b false) = K md (put env dst (.tup [])) σ := (rfl)
@[simp] theorem opG_ff {dst io} : opG env σ md dst K false io (.b false) = evE env σ (kput md env dst K) io := (rfl)
@[simp] theorem abS_opG {dst t w io} : abS P Y n0 (.op dst (some (t, w)) io) K md env σ = opG env σ md dst K w io (get env t) := (rfl)
def callG (P : Program) (env : Env) (σ : List O) (md : Md) (dst : Option Nat) (K : Kt) (want : Bool) (f : FuncId) (args : List Od) (v : V) : Prop := match v with | .b b => if b = want then callK P f (evs env args) σ (kput md env dst K) else K md (put env dst (.tup [])) σ | .tup [] => K md (put env dst (.tup [])) σ | _ => False
@[simp] theorem callG_tt {dst f args} : callG P env σ md dst K true f args (.b true) = callK P f (evs env args) σ (kput md env dst K) := (rfl)
@[simp] theorem callG_tf {dst f args} : callG P env σ md dst K false f args (.b true) = K md (put env dst (.tup [])) σ := (rfl)
@[simp] theorem callG_ft {dst f args} : callG P env σ md dst K true f args (.b false) = K md (put env dst (.tup [])) σ := (rfl)
@[simp] theorem callG_ff {dst f args} : callG P env σ md dst K false f args (.b false) = callK P f (evs env args) σ (kput md env dst K) := (rfl)
@[simp] theorem abS_callG {dst t w f args} : abS P Y n0 (.call dst (some (t, w)) f args) K md env σ = callG P env σ md dst K w f args (get env t) := by
 simp only [callG, ← evs_eq]; rfl
def callvG (P : Program) (Y : Yield) (n0 : Nat) (env : Env) (σ : List O) (md : Md) (dst : Option Nat) (K : Kt) (want : Bool) (x : Od) (args : List Od) (v : V) : Prop := match v with | .b b => if b = want then callvK P Y n0 (ev env x) md env (evs env args) σ dst K else K md (put env dst (.tup [])) σ | .tup [] => K md (put env dst (.tup [])) σ | _ => False
@[simp] theorem callvG_tt {dst x args} : callvG P Y n0 env σ md dst K true x args (.b true) = callvK P Y n0 (ev env x) md env (evs env args) σ dst K := (rfl)
@[simp] theorem callvG_ft {dst x args} : callvG P Y n0 env σ md dst K true x args (.b false) = K md (put env dst (.tup [])) σ := (rfl)
@[simp] theorem abS_callvG {dst t w x args} : abS P Y n0 (.callv dst (some (t, w)) x args) K md env σ = callvG P Y n0 env σ md dst K w x args (get env t) := by
 simp only [callvG, ← evs_eq, ← ev_eq]; rfl
@[simp] theorem kput_eq {dst v} : kput md env dst K v σ = K md (put env dst v) σ := (rfl)
@[simp] theorem keepK_eq {live} : keepK live K md env σ = K md (keepO env live) σ := (rfl)
@[simp] theorem exitK_eq {i} : exitK ((i, K) :: E) i md env σ = K md env σ := by simp [exitK]
@[simp] theorem exitK_ne {i id} (h : i ≠ id) : exitK ((i, K) :: E) id md env σ = exitK E id md env σ := by simp [exitK, h]
@[simp] theorem callvK_func {f first cap args dst} : callvK P Y n0 (.f (.func f) first cap) md env args σ dst K = callK P f (first ++ args ++ cap) σ (kput md env dst K) := (rfl)
def drK (loud : Bool) (md : Md) (σ : List O) (K : Kt) : Kt := fun md' env' σ' => md' = md ∧ (loud = false → σ' = σ) ∧ K md' env' σ'
@[simp] theorem drK_eq {loud : Bool} {md' : Md} {σ' : List O} : drK loud md σ K md' env σ' = (md' = md ∧ (loud = false → σ' = σ) ∧ K md' env σ') := (rfl)
@[simp] theorem abDs_cons0 {s : IS} {r : List (IS × List Nat)} {j : Nat} : abDs P Y n0 ((s, []) :: r) j [] K md env σ = abS P Y n0 s (drK s.loud md σ (abDs P Y n0 r (j + 1) [] K)) md env σ := by
 simp only [abDs, recheck, true_and, List.isEmpty_nil, if_true]; rfl
@[simp] theorem abDs_nil {j pend} : abDs P Y n0 [] j pend K md env σ = K md env σ := (rfl)
theorem again {live : Option (List Nat)} {I : Nat → Env → List O → Prop} {m : Nat} (m' : Nat) (h : m' < m) (hi : I m' (keepO env live) σ) : againK n0 live I m md md env σ := ⟨rfl, m', h, .inl hi⟩
theorem againF {live : Option (List Nat)} {I : Nat → Env → List O → Prop} {m : Nat} (m' k n : Nat) (h : m' < m) (h0 : n0 ≤ n) (h1 : n ≤ σ.length) (hi : I m' (keepO (frzE k n σ env) live) (frzS k n σ)) : againK n0 live I m md md env σ := ⟨rfl, m', h, .inr ⟨k, n, h0, h1, hi⟩⟩
theorem fin_of {rs : List IRes} {v : V} (k : Nat) (h : resK rs env σ fun vs => frz k 0 σ (retV vs) = v ∧ (frzS k 0 σ = [] ∨ True)) : finK rs [] v [] md env σ :=
 resK_mono h (fun vs h => .inl ⟨k, 0, Nat.le_refl _, Nat.zero_le _, h.1, .inl (by simp [frzS])⟩)
theorem fin_all {rs : List IRes} {σ0 σ1 : List O} {v : V} (h : resK rs env σ fun vs => retV vs = v ∧ σ1 = σ) : finK rs σ0 v σ1 md env σ :=
 resK_mono h (fun vs h => .inr h)
theorem ab_seq_k {a b : IC} (h : ∀ K' : Kt, (∀ md env σ, ab P Y It n0 b K E Rt md env σ → K' md env σ) → ab P Y It n0 a K' E Rt md env σ) : ab P Y It n0 (.seq a b) K E Rt md env σ := h _ (fun _ _ _ h => h)
theorem ab_block_k {id : Nat} {a : IC} (h : ∀ K' : Kt, (∀ md env σ, K md env σ → K' md env σ) → ab P Y It n0 a K' ((id, K') :: E) Rt md env σ) : ab P Y It n0 (.block id a) K E Rt md env σ := h _ (fun _ _ _ h => h)
theorem ab_cond_of {c : Od} {a b : IC} {t : Bool} (hc : ev env c = .b t) (h1 : t = true → ab P Y It n0 a K E Rt md env σ) (h2 : t = false → ab P Y It n0 b K E Rt md env σ) : ab P Y It n0 (.cond c a b) K E Rt md env σ := by
 rw [← ev_eq] at hc
 simp only [ab, hc]
 split
 ·exact h1 (by assumption)
 ·exact h2 (by simpa using ‹¬ t = true›)
theorem ab_loop_k {live : Option (List Nat)} {a : IC} (I : Nat → Env → List O → Prop) (m : Nat) (h0 : I m (keepO env live) σ)
  (h : ∀ m env σ, I m env σ → ∀ K' : Kt, (∀ md' env σ, againK n0 live I m md md' env σ → K' md' env σ) → ab P Y It n0 a K' E Rt md env σ) : ab P Y It n0 (.loop live a) K E Rt md env σ :=
 ⟨I, .inl ⟨m, h0⟩, fun m env σ hi => h m env σ hi _ (fun _ _ _ h => h)⟩
theorem callK_of {f : FuncId} {args : List V} {σ' : List O} {v : V} {C : Ct} (h : FSpec P f args σ v σ') (hk : C v σ') : callK P f args σ C := ⟨v, σ', h, hk⟩
end
attribute [simp] liveV retV resK O.ver fillV splice intsK frz frzE frzO pureL pureM pureE V.pure V.flat flatL IS.loud IOp.loud
@[simp] theorem cellsOf_agg {cs} : cellsOf (.agg cs) = some cs := (rfl)
@[simp] theorem cellsOf_i {k n} : cellsOf (.i k n) = some [.i k n] := (rfl)
@[simp] theorem cellsOf_p {a b c} : cellsOf (.p a b c) = some [.p a b c] := (rfl)
@[simp] theorem cellsOf_ss {a b c} : cellsOf (.ss a b c) = some [.ss a b c] := (rfl)
@[simp] theorem cellsOf_m {a} : cellsOf (.m a) = some [.m a] := (rfl)
@[simp] theorem ldAK_p_ {n id ver off : Nat} {σ : List O} {K : V → Prop} : ldAK n (.p id ver off) σ K = (match σ[id]? with | some (.row v cells) => v = ver ∧ off + n ≤ cells.length ∧ K (.agg ((cells.drop off).take n)) | _ => False) := (rfl)
@[simp] theorem frzS_zero {k : Nat} {σ : List O} : frzS k 0 σ = [] := by simp [frzS]
theorem frz_pure {k n : Nat} {σ : List O} {v : V} (h : v.pure = true) : frz (k + 1) n σ v = v := by simp [h]
theorem map_frz {k n : Nat} {σ : List O} {l : List V} (h : pureL l = true) : l.map (frz (k + 1) n σ) = l := by
 have : l.map (frz (k + 1) n σ) = l.map id := List.map_congr_left (fun x hx => frz_pure (pureL_all.1 h x hx))
 rw [this, List.map_id]
end Go.Ab
end
