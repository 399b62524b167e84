/- The abstract layer, part 22: contracts of functions out of the abstract machine's run of their bodies. -/
import Derived.Test.YtchmfamkpfaieaaAbL
set_option linter.unusedVariables false
set_option linter.unusedSimpArgs false
namespace Go.Ab
open Go

/-! ### Results -/
inductive IRes where
  | tmp (t : Nat)
  | one (t : Nat)
  | many (n t : Nat)
  deriving Inhabited

def resK : List IRes → Env → List O → (List V → Prop) → Prop
  | [], _, _, K => K []
  | .tmp t :: r, env, σ, K => resK r env σ (fun vs => K (get env t :: vs))
  | .one t :: r, env, σ, K => ld1K (get env t) σ (fun v => resK r env σ (fun vs => K (v :: vs)))
  | .many n t :: r, env, σ, K => ldAK n (get env t) σ (fun v => resK r env σ (fun vs => K (v :: vs)))

def retV : List V → V
  | [v] => v
  | vs => .tup vs

def trRes (P : Program) : List ResultVar → Option (List IRes)
  | [] => some []
  | .tmp t :: r => (trRes P r).map (.tmp t :: ·)
  | .cell a t :: r => match aggP P t, szP P t, trRes P r with
    | some false, _, some l => some (.one a :: l)
    | some true, some n, some l => some (.many n a :: l)
    | _, _, _ => none

section
variable {P : Program} {C : Cx} {σ : List O} {env : Env} {a : Act}

def readRes (tmps : Array Value) : ResultVar → Sem Value
  | .tmp t => pure (tmps.getD t undef)
  | .cell a t => do loadVar t (← asAddr (tmps.getD a undef))

theorem resK_sound (h : R C σ) (he : ∀ t, VR C (get env t) (a.tmps.getD t undef)) : ∀ {rv : List ResultVar} {rs : List IRes}, trRes P rv = some rs → ∀ {K : List V → Prop}, resK rs env σ K →
    ∃ vs cs, (rv.mapM (readRes a.tmps)).run P C.w = .ok cs C.w ∧ VRl C vs cs ∧ K vs
  | [], rs, htr, K, hk => by
    simp only [trRes, Option.some.injEq] at htr
    subst htr
    exact ⟨[], [], by simp, ⟨rfl, by simp⟩, hk⟩
  | .tmp t :: rv, rs, htr, K, hk => by
    simp only [trRes, Option.map_eq_some_iff] at htr
    obtain ⟨rs', hr, rfl⟩ := htr
    obtain ⟨vs, cs, h1, h2, h3⟩ := resK_sound h he hr hk
    refine ⟨get env t :: vs, a.tmps.getD t undef :: cs, ?_, ⟨by simp [h2.1], fun j x c hx hc => ?_⟩, h3⟩
    · simp only [List.mapM_cons, readRes, Sem.run_bind, Sem.run_pure, Result.andThen_ok, h1]
    · cases j with
      | zero => obtain rfl := Option.some.inj hx; obtain rfl := Option.some.inj hc; exact he t
      | succ j => exact h2.2 j x c (by simpa using hx) (by simpa using hc)
  | .cell b t :: rv, rs, htr, K, hk => by
    simp only [trRes] at htr
    split at htr
    · rename_i l ha hr
      cases htr
      obtain ⟨blk, o, v, cv, hp, hc, hv, hk⟩ := ld1_cell h (he b) hk
      obtain ⟨vs, cs, h1, h2, h3⟩ := resK_sound h he hr hk
      refine ⟨v :: vs, cv :: cs, ?_, ⟨by simp [h2.1], fun j x c hx hc => ?_⟩, h3⟩
      · have : (readRes a.tmps (.cell b t)).run P C.w = .ok cv C.w := by
          simp [readRes, hp, asAddr, loadVar, run_isAgg_false ha, hc]
        simp only [List.mapM_cons, Sem.run_bind, Sem.run_pure, Result.andThen_ok, this, h1]
      · cases j with
        | zero => simp at hx hc; subst hx; subst hc; exact hv
        | succ j => exact h2.2 j x c (by simpa using hx) (by simpa using hc)
    · rename_i n l ha hn hr
      cases htr
      obtain ⟨blk, o, xs, ds, hp, hl, hc, hv, hk⟩ := ldA_cells h (he b) hk
      obtain ⟨vs, cs, h1, h2, h3⟩ := resK_sound h he hr hk
      refine ⟨.agg xs :: vs, .agg ds.toArray :: cs, ?_, ⟨by simp [h2.1], fun j x c hx hc => ?_⟩, h3⟩
      · have hlc := run_loadCells_list (P := P) C.w ⟨blk, o, none⟩ ds (fun j v hj => by rw [add_at]; exact hc j v hj)
        rw [hl] at hlc
        have : (readRes a.tmps (.cell b t)).run P C.w = .ok (.agg ds.toArray) C.w := by
          simp [readRes, hp, asAddr, loadVar, run_isAgg_true ha, run_sizeOf hn, hlc]
        simp only [List.mapM_cons, Sem.run_bind, Sem.run_pure, Result.andThen_ok, this, h1]
      · cases j with
        | zero => simp at hx hc; subst hx; subst hc; exact hv
        | succ j => exact h2.2 j x c (by simpa using hx) (by simpa using hc)
    · cases htr

theorem results_run {fn : Func} {tmps : Array Value} {cs : List Value} {w : World} (h : (fn.results.toList.mapM (readRes tmps)).run P w = .ok cs w) :
    ∃ cv, (results fn tmps).run P w = .ok cv w ∧ ∀ {C : Cx} {vs : List V}, VRl C vs cs → VR C (retV vs) cv := by
  have hm : (fn.results.mapM (readRes tmps)).run P w = .ok cs.toArray w := by
    have e : fn.results = fn.results.toList.toArray := by simp
    rw [e, List.mapM_toArray]
    simp only [Sem.run_map, h, Result.andThen_ok]
  have hr : (results fn tmps).run P w = .ok (if h : cs.toArray.size = 1 then cs.toArray[0] else .tuple cs.toArray) w := by
    have : results fn tmps = (do let vs ← fn.results.mapM (readRes tmps); pure (if h : vs.size = 1 then vs[0] else .tuple vs)) := by
      unfold results
      congr 1
    rw [this]
    simp only [Sem.run_bind, hm, Result.andThen_ok, Sem.run_pure]
  refine ⟨_, hr, fun {C vs} hvs => ?_⟩
  match vs, cs, hvs with
  | [], [], hvs => exact .tup [] #[] rfl (by simp)
  | [v], [c], hvs => exact hvs.2 0 v c rfl rfl
  | v :: v' :: vs, c :: c' :: cs, hvs =>
    have : ¬ ((c :: c' :: cs).toArray.size = 1) := by simp
    rw [dif_neg this]
    exact .tup _ _ (by have := hvs.1; simpa using this) (fun j x d hx hd => hvs.2 j x d hx (by simpa using hd))
  | [], c :: cs, hvs => have := hvs.1; simp at this
  | [v], [], hvs => have := hvs.1; simp at this
  | [v], c :: c' :: cs, hvs => have := hvs.1; simp at this
  | v :: v' :: vs, [], hvs => have := hvs.1; simp at this
  | v :: v' :: vs, [c], hvs => have := hvs.1; simp at this

end

/-! ### What is carried along in a function -/
def mkMark (r : Nat) : Deferred := { target := .collected r, args := #[] }

def Marks (C0 C : Cx) (rs : List Nat) : Prop := rs.Nodup ∧ ∀ r ∈ rs, C0.w.heap.size ≤ r ∧ r < C.w.heap.size ∧ C.w.heap[r]? = some (.deferred (some [])) ∧ (∀ i p : Nat, C.ρ[i]? ≠ some (r, p)) ∧ ¬ C.Z r

def PInv (C0 : Cx) (md : Md) (C : Cx) (D : List Deferred) : Prop := md = some 0 ∧ Ext C0 C ∧ ∃ rs, D = rs.map mkMark ∧ Marks C0 C rs

theorem Marks.step {C0 C C' : Cx} {S : Nat → Prop} {rs : List Nat} (h : Marks C0 C rs) (e : ExtA S C C') (hS : ∀ r ∈ rs, ¬ S r) : Marks C0 C' rs :=
  ⟨h.1, fun r hr => by
    obtain ⟨h1, h2, h3, h4, h5⟩ := h.2 r hr
    obtain ⟨a1, a2, a3⟩ := e.apart h2 h4 h5
    exact ⟨h1, a1, (e.frame r h2 h4 (hS r hr)).trans h3, a2, a3⟩⟩

theorem PInv_ok {C0 : Cx} (wf0 : Wf C0) : InvOK C0.vs.length (PInv C0) where
  ext := fun {md C C' D} ⟨h1, h2, rs, h3, h4⟩ wf x => ⟨h1, h2.trans x, rs, h3, h4.step (x.toA (fun _ => False)) (fun _ _ h => h)⟩
  trunc := fun {md C D n} ⟨h1, h2, rs, h3, h4⟩ wf hn => ⟨h1, trunc_ext h2 wf0 hn, rs, h3, h4.1, fun r hr => by
    obtain ⟨a1, a2, a3, a4, a5⟩ := h4.2 r hr
    refine ⟨a1, a2, a3, fun i p hi => a4 i p (get_take hi).2, ?_⟩
    rintro (hz | ⟨i, p, -, hi⟩)
    · exact a5 hz
    · exact a4 i p hi⟩
  le := fun {md C D} ⟨h1, h2, _⟩ => (h2.toA (fun _ => False)).len

theorem PInv_rfn {P : Program} {It : ItTy} {C0 : Cx} : RfnOK It P Fence.wide (PInv C0) := by
  rintro - md C D fn tmps ps asg body wf ⟨h1, h2, rs, rfl, h4⟩
  refine ⟨C.w.heap.size + 1, [{ target := .collected C.w.heap.size, args := #[] }], _, C.w.heap.size, run_enterLoop_outer fn tmps ps asg body, rfl, rfl, rfl, by omega, by simp, ?_, ?_, ?_⟩
  · intro b hb
    exact (heap_alloc_lt _ _ (by simp; omega)).trans (heap_alloc_lt _ _ hb)
  · have := World.alloc_heap_new (C.w.alloc (.deferred (some []))) (.loop { state := .ready, pending := none, fn := fn, tmps := tmps, params := ps, assign := asg, body := body, defers := C.w.heap.size })
    rwa [World.size_alloc] at this
  · intro C' hx
    generalize hob : (Obj.loop { state := .ready, pending := none, fn := fn, tmps := tmps, params := ps, assign := asg, body := body, defers := C.w.heap.size }) = ob at hx
    have hold : ∀ b, b < C.w.heap.size → ((C.w.alloc (.deferred (some []))).alloc ob).heap[b]? = C.w.heap[b]? := fun b hb =>
      (heap_alloc_lt _ _ (by simp; omega)).trans (heap_alloc_lt _ _ hb)
    have e1 : Ext C (C.world ((C.w.alloc (.deferred (some []))).alloc ob)) :=
      world_ext (w' := (C.w.alloc (.deferred (some []))).alloc ob) wf rfl rfl rfl (by simp; omega) (fun b hb _ => hold b hb) (fun i b p hi cc t hc => ⟨cc, (hold b (wf.lt i b p hi)).trans hc, rfl⟩)
    have e2 : ExtA (fun _ => False) C C' := (e1.toA _).trans hx (fun b hb => .inr (by rw [hb]; omega))
    refine ⟨h1, h2.trans (e2.toExt (fun _ h => h.elim)), C.w.heap.size :: rs, rfl, ?_⟩
    have hnew : C.w.heap.size ∉ rs := fun hm => by have := (h4.2 _ hm).2.1; omega
    refine ⟨List.nodup_cons.2 ⟨hnew, h4.1⟩, fun r hr => ?_⟩
    rcases List.mem_cons.1 hr with rfl | hr
    · have hlt : C.w.heap.size < (C.world ((C.w.alloc (.deferred (some []))).alloc ob)).w.heap.size := by simp [Cx.world]; omega
      have hρ : ∀ i p : Nat, (C.world ((C.w.alloc (.deferred (some []))).alloc ob)).ρ[i]? ≠ some (C.w.heap.size, p) := fun i p hi => by have := wf.lt i _ p hi; omega
      have hz : ¬ (C.world ((C.w.alloc (.deferred (some []))).alloc ob)).Z C.w.heap.size := fun hz => by have := wf.zlt _ hz; omega
      obtain ⟨a1, a2, a3⟩ := hx.apart hlt hρ hz
      refine ⟨h2.size, a1, (hx.frame _ hlt hρ (by omega)).trans ?_, a2, a3⟩
      show ((C.w.alloc (.deferred (some []))).alloc ob).heap[C.w.heap.size]? = _
      rw [heap_alloc_lt _ _ (by simp)]
      exact heap_alloc_eq _ _
    · exact (h4.step e2 (fun _ _ h => h)).2 r hr

/-! ### Contracts -/
def finK (rs : List IRes) (σ0 : List O) (v : V) (σ' : List O) : Kt := fun _ env σe => resK rs env σe fun vs =>
  (∃ k n, σ0.length ≤ n ∧ n ≤ σe.length ∧ frz k n σe (retV vs) = v ∧ (frzS k n σe = σ' ∨ (n = σ0.length ∧ (∃ σl, σe = σ0 ++ σl) ∧ σ' = σ0))) ∨ (retV vs = v ∧ σ' = σe)

theorem resK_mono : ∀ {rs : List IRes} {env : Env} {σ : List O} {K K' : List V → Prop}, resK rs env σ K → (∀ vs, K vs → K' vs) → resK rs env σ K'
  | [], _, _, _, _, h, hk => hk _ h
  | .tmp t :: r, env, σ, K, K', h, hk => resK_mono (rs := r) (K := fun vs => K (get env t :: vs)) h (fun vs h => hk _ h)
  | .one t :: r, env, σ, K, K', h, hk => by
    simp only [resK, ld1K] at h ⊢
    split at h
    · split at h
      · exact ⟨h.1, h.2.1, resK_mono (rs := r) h.2.2 (fun vs h => hk _ h)⟩
      · exact h.elim
    · exact ⟨h.1, resK_mono (rs := r) h.2 (fun vs h => hk _ h)⟩
    · exact h.elim
  | .many n t :: r, env, σ, K, K', h, hk => by
    simp only [resK, ldAK] at h ⊢
    split at h
    · split at h
      · exact ⟨h.1, h.2.1, resK_mono (rs := r) h.2.2 (fun vs h => hk _ h)⟩
      · exact h.elim
    · exact ⟨h.1, resK_mono (rs := r) h.2 (fun vs h => hk _ h)⟩
    · exact h.elim

theorem VR.trunc {C : Cx} {n : Nat} {x : V} {c : Value} (h : VR C x c) (hlt : Lt n x) : VR (C.trunc n) x c := by
  induction h with
  | u c => exact .u c
  | b x => exact .b x
  | i k n => exact .i k n
  | str s => exact .str s
  | np => exact .np
  | p id ver off blk bs h hv => cases hlt with | p _ _ _ hl => exact .p id ver off blk bs (take_get hl h) (take_get hl hv)
  | p0 id ver off v c h1 hv hl => cases hlt with | p _ _ _ hl' => exact .p0 id ver off v c h1 (take_get hl' hv) hl
  | sp cells off blk base cs hz hl h1 hc hv ih =>
    cases hlt with | sp _ _ hl' => exact .sp cells off blk base cs (.inl hz) hl h1 hc (fun j x c hx hc' => ih j x c hx hc' (hl' x (List.mem_of_getElem? hx)))
  | s id ver off len es blk bs at_ cap cc t h hv hlc hb hs ha => cases hlt with | s _ _ _ _ _ hl => exact .s id ver off len es blk bs at_ cap cc t (take_get hl h) (take_get hl hv) hlc hb hs ha
  | s0 id ver off len es v c h1 hv hl => cases hlt with | s _ _ _ _ _ hl' => exact .s0 id ver off len es v c h1 (take_get hl' hv) hl
  | ss0 a cap => exact .ss0 a cap
  | ssn a => exact .ssn a
  | ss cells len full blk base cap cs hz hl h1 hc hv hlc hf ih =>
    cases hlt with | ss _ _ _ hl' => exact .ss cells len full blk base cap cs (.inl hz) hl h1 hc (fun j x c hx hc' => ih j x c hx hc' (hl' x (List.mem_of_getElem? hx))) hlc hf
  | nm => exact .nm
  | m id blk bs h hv => cases hlt with | m _ hl => exact .m id blk bs (take_get hl h) (take_get hl hv)
  | m0 id v c h1 hv hl => cases hlt with | m _ hl' => exact .m0 id v c h1 (take_get hl' hv) hl
  | sm l blk es clock hz hb hl hk hv ihk ihv =>
    cases hlt with | sm _ h1 h2 => exact .sm l blk es clock (.inl hz) hb hl (fun j k v e hj he => ihk j k v e hj he (h1 _ (List.mem_of_getElem? hj))) (fun j k v e hj he => ihv j k v e hj he (h2 _ (List.mem_of_getElem? hj)))
  | nf => exact .nf
  | f fn first cap cf cc hl1 hl2 h1 h2 ih1 ih2 =>
    cases hlt with | f _ _ _ k1 k2 => exact .f fn first cap cf cc hl1 hl2 (fun j x c hx hc => ih1 j x c hx hc (k1 x (List.mem_of_getElem? hx))) (fun j x c hx hc => ih2 j x c hx hc (k2 x (List.mem_of_getElem? hx)))
  | agg cells cs hl h1 hv ih => cases hlt with | agg _ k => exact .agg cells cs hl h1 (fun j x c hx hc => ih j x c hx hc (k x (List.mem_of_getElem? hx)))
  | tup vs cs hl hv ih => cases hlt with | tup _ k => exact .tup vs cs hl (fun j x c hx hc => ih j x c hx hc (k x (List.mem_of_getElem? hx)))

/-- What stood at the start stands still, whatever has been made behind it. -/
theorem prefix_sound {C0 C : Cx} {σ0 σl : List O} (h0 : R C0 σ0) (h : R C (σ0 ++ σl)) : R (C.trunc σ0.length) σ0 where
  wf := trunc_wf h.wf
  len := by have := h.len; simp only [List.length_append] at this; simp [Cx.trunc]; omega
  ver := fun id o ho => by
    have hlt := (List.getElem?_eq_some_iff.1 ho).1
    exact take_get hlt (h.ver id o (by rw [List.getElem?_append_left hlt]; exact ho))
  obj := fun id o blk bs ho hb => by
    obtain ⟨hlt, hb⟩ := get_take hb
    have hOR := h.obj id o blk bs (by rw [List.getElem?_append_left hlt]; exact ho) hb
    obtain ⟨blk0, bs0, -, -, hOR0⟩ := h0.blk ho
    have hlen := h0.len
    cases hOR with
    | row ver cells cc t hb hl h1 hv =>
      cases hOR0 with
      | row _ _ cc0 t0 hb0 hl0 h10 hv0 =>
        refine .row ver cells cc t hb hl h1 (fun j x c hx hc => (hv j x c hx hc).trunc ?_)
        have hj := (List.getElem?_eq_some_iff.1 hx).1
        have := (hv0 j x _ hx (Array.getElem?_eq_getElem (by omega))).lt
        rw [hlen]; exact this
    | map es clock ces hb hl hv =>
      cases hOR0 with
      | map _ _ ces0 hb0 hl0 hv0 =>
        refine .map es clock ces hb hl (fun j b k v e hj he => ?_)
        have hlt' := (List.getElem?_eq_some_iff.1 hj).1
        obtain ⟨-, k1, k2⟩ := hv0 j b k v _ hj (Array.getElem?_eq_getElem (by omega))
        obtain ⟨e1, e2, e3⟩ := hv j b k v e hj he
        exact ⟨e1, e2.trunc (by rw [hlen]; exact k1.lt), e3.trunc (by rw [hlen]; exact k2.lt)⟩
    | it mid since seen stepped mb hz hm hb =>
      cases hOR0 with
      | it _ _ _ _ mb0 _ hm0 _ => exact .it mid since seen stepped mb hz (hm.trunc (by rw [hlen]; exact hm0.lt)) hb
    | dead ver => exact .dead ver

theorem leaves_sound {P : Program} {fn : Func} {tmps : Array Value} {Rr : Ending → World → Prop} {C0 : Cx} (wf0 : Wf C0) {σ : List O} {env : Env} : ∀ (rs : List Nat) {C : Cx}, R C σ → Ext C0 C → (∀ t, VR C (get env t) (tmps.getD t undef)) → Marks C0 C rs →
    (∀ C, R C σ → Ext C0 C → (∀ t, VR C (get env t) (tmps.getD t undef)) → ∃ v, (results fn tmps).run P C.w = .ok v C.w ∧ Rr (.returned v) C.w) → LeavesInM Fence.wide 0 P fn tmps Rr (rs.map mkMark) .returning C.w
  | [], C, h, hx, he, _, fin => by
    simp only [List.map_nil, LeavesInM, LeavesIn]
    exact fin C h hx he
  | r :: rs, C, h, hx, he, hm, fin => by
    obtain ⟨h1, h2, h3, h4, h5⟩ := hm.2 r (List.mem_cons_self ..)
    obtain ⟨hR, hxA, hr⟩ := h.put h2 h4 h5 (.deferred none)
    simp only [List.map_cons, LeavesInM]
    refine ⟨by simp, .inl ⟨r, _, rfl, run_takeDeferred h3, ?_⟩⟩
    have hnd := List.nodup_cons.1 hm.1
    have hm' : Marks C0 C rs := ⟨hnd.2, fun r' hr' => hm.2 r' (List.mem_cons_of_mem _ hr')⟩
    have hx' : Ext C0 (C.world (C.w.putObj r (.deferred none))) := by
      have := (hx.toA (fun _ => False)).trans hxA (fun b hb => .inr (by rw [hb]; exact h1))
      exact this.toExt (fun _ h => h.elim)
    exact leaves_sound wf0 rs (C := C.world (C.w.putObj r (.deferred none))) hR hx' (fun t => (he t).extA hxA h.wf (fun b hb => hb ▸ h5)) (hm'.step hxA (fun r' hr' hE => hnd.1 (hE ▸ hr'))) fin

theorem entry_env {C : Cx} : ∀ {args : List V} {cs : List Value} {i : Nat} {t : Array Value}, VRl C args cs → (∀ (j : Nat) (c : Value), cs[j]? = some c → t[i + j]? = some c) → ∀ s, VR C (get (entry i args) s) (t.getD s undef)
  | [], cs, i, t, _, _, s => .u _
  | v :: args, [], i, t, h, _, s => by have := h.1; simp at this
  | v :: args, c :: cs, i, t, h, ht, s => by
    simp only [entry, get]
    split
    · rename_i hs
      subst hs
      have := ht 0 c rfl
      rw [Nat.add_zero] at this
      rw [Array.getD_eq_getD_getElem?, this]
      exact h.2 0 v c rfl rfl
    · exact entry_env (C := C) (cs := cs) ⟨by have := h.1; simpa using this, fun j x d hx hd => h.2 (j + 1) x d (by simpa using hx) (by simpa using hd)⟩
        (fun j d hd => by have := ht (j + 1) d (by simpa using hd); rw [← this]; congr 1; omega) s

theorem enter_tmps {cargs : List Value} {N n : Nat} (hN : N ≤ n) : N ≤ (cargs.toArray ++ Array.replicate (n - cargs.toArray.size) undef).size := by
  simp; omega

theorem FSpec_of_ab {P : Program} {It : ItTy} (hm : P.follows .mixedOrders = true) (hIt : ItOK P It) {f : FuncId} {fn : Func} {c : Code} {N : Nat} {ex : List Nat} {ic : IC} {rs : List IRes} {args : List V} {σ : List O} {v : V} {σ' : List O}
    (hf : P.funcs[f]? = some fn) (hn : fn.name ≠ "runtime.NumGoroutine") (hb : fn.body = some c) (hN : N ≤ fn.ntmps) (htr : trC P N ex c = some ic.erase) (hrs : trRes P fn.results.toList = some rs)
    (h : ab P noY It σ.length ic (finK rs σ v σ') [] (finK rs σ v σ') (some 0) (entry 0 args) σ) : FSpec P f args σ v σ' := by
  refine ⟨⟨fn, hf, hn, by rw [hb]; rfl⟩, fun C cargs hR hargs => ?_⟩
  refine callsIn_of_wp_marks hf hb trivial ?_
  have hlen : C.vs.length = σ.length := hR.len.symm
  have hInv := PInv_ok hR.wf
  rw [hlen] at hInv
  have fin : ∀ a w, Lift (PInv C) N (finK rs σ v σ') a w → LeavesInM Fence.wide 0 P fn a.tmps (fun e w' => ∃ C' cv, C'.w = w' ∧ e = .returned cv ∧ R C' σ' ∧ Ext C C' ∧ VR C' v cv) a.defers .returning w := by
    rintro a w ⟨C1, md, env, σe, rfl, h1, ⟨-, h2, ms, h3, h4⟩, -, h5, hk⟩
    rw [h3]
    refine leaves_sound hR.wf ms h1 h2 h5 h4 (fun C2 hR2 hx2 he2 => ?_)
    obtain ⟨vs, cs, r1, r2, r34⟩ := resK_sound (a := { tmps := a.tmps, defers := [] }) hR2 he2 hrs hk
    obtain ⟨cv, r5, r6⟩ := results_run r1
    have hle : σ.length ≤ σe.length := by
      have := (hx2.toA (fun _ => False)).len
      have := hR2.len
      omega
    rcases r34 with ⟨k, n, hn1, hn2, r3, r4⟩ | ⟨r3, r4⟩
    · refine ⟨cv, r5, C2.trunc n, cv, rfl, rfl, ?_, trunc_ext hx2 hR.wf (by omega), ?_⟩
      · rcases r4 with r4 | ⟨rfl, ⟨σl, rfl⟩, rfl⟩
        · rw [← r4]; exact frzS_sound hR2 k hn2
        · exact prefix_sound hR hR2
      · rw [← r3]; exact frz_sound hR2 k (r6 r2)
    · refine ⟨cv, r5, C2, cv, rfl, rfl, ?_, hx2, ?_⟩
      · rw [r4]; exact hR2
      · rw [← r3]; exact r6 r2
  refine ab_sound (E := []) (K := finK rs σ v σ') (Rt := finK rs σ v σ') (Q := bodyPostM Fence.wide 0 P fn _) hm hIt c (.inl rfl) hInv PInv_rfn noY_ok htr (fun a w hl => fin a w hl) (fun id a w hl => by obtain ⟨_, _, _, _, _, _, _, _, _, hl⟩ := hl; exact False.elim hl) (fun a w hl => fin a w hl) ?_
  refine ⟨C, some 0, entry 0 args, σ, rfl, hR, ⟨rfl, Ext.refl C, [], rfl, List.nodup_nil, by simp⟩, enter_tmps hN, fun t => ?_, h⟩
  refine entry_env hargs (fun j d hd => ?_) t
  rw [Nat.zero_add, Array.getElem?_append_left (by have := (List.getElem?_eq_some_iff.1 hd).1; simpa using this)]
  simpa using hd

/-! ### Functions that are ranged over -/
def finI (n0 : Nat) (J : List O → Prop) (Dn : Nat → List O → Prop) : Kt := fun md _ σe => ∃ k n, n0 ≤ n ∧ n ≤ σe.length ∧ (match md with | none => J (frzS k n σe) | some j => Dn j (frzS k n σe))

def noIt : ItTy := fun _ _ _ _ _ => False

theorem noIt_ok {P : Program} : ItOK P noIt := fun _ _ _ _ _ h => h.elim

def yieldsK (l : Nat) (xs : List (List V)) (J Dn : Nat → List O → Prop) (l' : Nat) (args : List V) (σ' : List O) (Kont : Md → V → List O → Prop) : Prop :=
  l' = l ∧ ∃ i, xs[i]? = some args ∧ J i σ' ∧ (∀ σ'', J (i + 1) σ'' → Kont none (.b true) σ'') ∧ (∀ j σ'', Dn j σ'' → Kont (some j) (.b false) σ'')

theorem It_of_ab {P : Program} (hm : P.follows .mixedOrders = true) {f : FuncId} {fn : Func} {c : Code} {N : Nat} {ex : List Nat} {ic : IC} {first cap : List V} {xs : List (List V)} {Pre : List O → Prop}
    (hf : P.funcs[f]? = some fn) (hn : fn.name ≠ "runtime.NumGoroutine") (hb : fn.body = some c) (hN : N ≤ fn.ntmps) (htr : trC P N ex c = some ic.erase) (hrs : fn.results = #[])
    (h : ∀ (J Dn : Nat → List O → Prop) (σ : List O) (l : Nat), (∀ i σ, J i σ → Pre σ) → J 0 σ → LtAll σ →
      ab P (yieldsK l xs J Dn) noIt σ.length ic (finI σ.length (J xs.length) Dn) [] (finI σ.length (J xs.length) Dn) none (entry 0 (first ++ [V.f (.yield l) [] []] ++ cap)) σ) :
    (∃ fn, P.funcs[f]? = some fn ∧ fn.name ≠ "runtime.NumGoroutine" ∧ fn.body.isSome = true) ∧
    ∀ (Inv : Md → Cx → List Deferred → Prop) (Y : Yield) (J Dn : Nat → List O → Prop) (C : Cx) (σ : List O) (l : Nat) (cargs : List Value), InvOK σ.length Inv → YOK P Fence.wide Inv Y → R C σ → Inv none C [] → J 0 σ → (∀ i σ, J i σ → Pre σ) →
      VRl C (first ++ [V.f (.yield l) [] []] ++ cap) cargs →
      (∀ i x σ' (Kont : Md → V → List O → Prop), xs[i]? = some x → J i σ' → (∀ σ'', J (i + 1) σ'' → Kont none (.b true) σ'') → (∀ j σ'', Dn j σ'' → Kont (some j) (.b false) σ'') → Y l x σ' Kont) →
      CallsIn Fence.wide 0 P f cargs.toArray C.w (fun e w' => ∃ C' cv md σ', C'.w = w' ∧ e = .returned cv ∧ R C' σ' ∧ Inv md C' [] ∧ (match md with | none => J xs.length σ' | some j => Dn j σ')) := by
  refine ⟨⟨fn, hf, hn, by rw [hb]; rfl⟩, fun Inv Y J Dn C σ l cargs hI hY hR hinv hJ hJP hargs hYJ => ?_⟩
  obtain ⟨Rr, hRr⟩ : ∃ Rr : Ending → World → Prop, Rr = (fun e w' => ∃ C' cv md σ', C'.w = w' ∧ e = .returned cv ∧ R C' σ' ∧ Inv md C' [] ∧ (match md with | none => J xs.length σ' | some j => Dn j σ')) := ⟨_, rfl⟩
  rw [← hRr]
  refine callsIn_of_wp hf hb trivial ?_
  let Inv' : Md → Cx → List Deferred → Prop := fun md C D => D = [] ∧ Inv md C D
  have hI' : InvOK σ.length Inv' := {
    ext := fun {md C C' D} h wf x => ⟨h.1, hI.ext h.2 wf x⟩
    trunc := fun {md C D n} h wf hn => ⟨h.1, hI.trunc h.2 wf hn⟩
    le := fun {md C D} h => hI.le h.2 }
  have hY' : YOK P Fence.wide Inv' (yieldsK l xs J Dn) := by
    rintro l' args σ' Kont C D cargs ⟨rfl, h1⟩ h2 h3 ⟨rfl, i, k1, k2, k3, k4⟩
    obtain ⟨fn', tmps, asg, body, w', r1, r2⟩ := hY l' args σ' Kont C [] cargs h1 h2 h3 (hYJ i args σ' Kont k1 k2 k3 k4)
    refine ⟨fn', tmps, asg, body, w', r1, r2.mono ?_⟩
    rintro e w'' ⟨md', C', b, σ'', e1, e2, e3, e4, e5, e6⟩
    exact ⟨md', C', b, σ'', e1, e2, e3, e4, ⟨rfl, e5⟩, e6⟩
  have fin : ∀ a w, Lift Inv' N (finI σ.length (J xs.length) Dn) a w → a.defers = [] ∧ ∃ v, (results fn a.tmps).run P w = .ok v w ∧ Rr (.returned v) w := by
    rw [hRr]
    rintro a w ⟨C1, md, env, σe, rfl, h1, ⟨h2, h3⟩, -, h5, k, n, hn1, hn2, hk⟩
    refine ⟨h2, .tuple #[], ?_, C1.trunc n, _, md, frzS k n σe, rfl, rfl, frzS_sound h1 k hn2, ?_, by cases md <;> exact hk⟩
    · simp [results, hrs]
    · rw [h2] at h3; exact hI.trunc h3 h1.wf hn1
  refine ab_sound (E := []) (K := finI σ.length (J xs.length) Dn) (Rt := finI σ.length (J xs.length) Dn) (Q := bodyPost P fn Rr) hm noIt_ok c (.inl rfl) hI' (fun ⟨_, _, _, _, _, h⟩ => h.elim) hY' htr (fun a w hl => fin a w hl) (fun id a w hl => by obtain ⟨_, _, _, _, _, _, _, _, _, hl⟩ := hl; exact False.elim hl) (fun a w hl => fin a w hl) ?_
  refine ⟨C, none, entry 0 (first ++ [V.f (.yield l) [] []] ++ cap), σ, rfl, hR, ⟨rfl, hinv⟩, enter_tmps hN, fun t => ?_, h J Dn σ l hJP hJ hR.ltAll⟩
  refine entry_env hargs (fun j d hd => ?_) t
  rw [Nat.zero_add, Array.getElem?_append_left (by have := (List.getElem?_eq_some_iff.1 hd).1; simpa using this)]
  simpa using hd

end Go.Ab
