import Derived.Test.YtgndegccjhdmmaaGreatPDx2
/- Part 3 of what the theorem in TC rests on: an abstract layer over the calculus, contracts of the functions of the program, and plain facts. -/
set_option linter.unusedVariables false
set_option linter.unusedSimpArgs false
set_option linter.constructorNameAsVariable false
set_option maxHeartbeats 4000000
set_option maxRecDepth 100000
section
section
namespace Go.Ab
open Go
section
variable {P : Program} {C : Cx} {σ : List O} {env : Nat → V} {a : Act}
theorem parts_split {ps : Array (Nat × Operand)} : (ps.map fun (i, x) => (i, a.eval x)) = (ps.toList.map fun p => (p.1, a.eval p.2)).toArray := by
 rw [← Array.toList_inj]; simp
theorem NextOK.of_val {K : V → List O → Prop} {s : Sem Next} {cv : Value} {v : V} (hr : s.run P C.w = .ok (.value cv) C.w) (h : R C σ) (hv : VR C v cv) (hk : K v σ) : NextOK C K (s.run P C.w) :=
 ⟨cv, C, v, σ, .inl hr, h, Ext.refl C, hv, hk⟩
theorem ev_sound (h : R C σ) (he : ∀ t, VR C (env t) (a.tmps.getD t undef)) {o : Oper} {frz : Bool} {io : IOp} (htr : trOp P frz o = some io)
  {K : V → List O → Prop} (hk : evK (Od.ev env) σ K io) : NextOK C K ((execOp a.eval o).run P C.w) := by
 unfold trOp at htr
 split at htr
 ·-- move
  rename_i x ho
  simp only [Option.map_eq_some_iff] at htr
  obtain ⟨y, hy, rfl⟩ := htr
  exact NextOK.of_val (by simp [execOp, ho]) h (trX_sound hy he) hk
 ·rename_i x ho
  simp only [Option.map_eq_some_iff] at htr
  obtain ⟨y, hy, rfl⟩ := htr
  exact NextOK.of_val (by simp [execOp, ho]) h (trX_sound hy he) hk
 ·-- pick
  rename_i c x y ho
  split at htr
  ·rename_i c' x' y' hc hx hy
   cases htr
   simp only [evK] at hk
   split at hk
   ·rename_i t ht
    have hcv := trX_sound hc he
    rw [ht] at hcv
    have hcb := bool_inv hcv
    cases t
    ·exact NextOK.of_val (by simp [execOp, ho, hcb, asBool]) h (trX_sound hy he) (by simpa using hk)
    ·exact NextOK.of_val (by simp [execOp, ho, hcb, asBool]) h (trX_sound hx he) (by simpa using hk)
   ·exact hk.elim
  ·cases htr
 ·-- alloc
  rename_i e ho
  simp only [Option.map_eq_some_iff] at htr
  obtain ⟨y, hy, rfl⟩ := htr
  simp only [execOp, ho]
  exact NextOK.of_done (alloc_sound h hy hk)
 ·-- box
  rename_i t x ho
  simp only [Option.map_eq_some_iff] at htr
  obtain ⟨y, hy, rfl⟩ := htr
  simp only [execOp, ho]
  simp only [evK] at hk
  split at hk
  ·rename_i cs hcs
   exact NextOK.of_done (box_sound h (trX_sound hy he) hcs hk)
  ·exact hk.elim
 ·-- build
  rename_i t ps ho
  simp only [execOp, ho, parts_split]
  split at htr
  ·rename_i fs zs ht hz
   split at htr
   ·rename_i qs hqs
    obtain ⟨hall, rfl⟩ := gd_some htr
    simp only [evK] at hk
    split at hk
    ·rename_i cs hcs
     obtain ⟨hl, hp⟩ := trParts_sound (C := C) he hqs
     refine NextOK.of_done (build_struct h ht hall hz hl (fun j o s x i c hj hq => ?_) hcs hk)
     obtain ⟨hp1, hp2⟩ := hp j o s x i c hj hq
     refine ⟨?_, hp2⟩
     simp only [trParts'] at hp1
     split at hp1
     ·rename_i f hf
      split at hp1
      ·rename_i s' hs'
       cases hp1
       exact ⟨f, hf, rfl, hs'⟩
      ·cases hp1
     ·cases hp1
    ·exact hk.elim
   ·cases htr
  ·rename_i n e zs ht hz
   split at htr
   ·rename_i s hs
    simp only [Option.map_eq_some_iff] at htr
    obtain ⟨qs, hqs, rfl⟩ := htr
    simp only [evK] at hk
    split at hk
    ·rename_i cs hcs
     obtain ⟨hl, hp⟩ := trParts_sound (C := C) he hqs
     refine NextOK.of_done (build_array h ht hs hz hl (fun j o s x i c hj hq => ?_) hcs hk)
     obtain ⟨hp1, hp2⟩ := hp j o s x i c hj hq
     cases hp1
     exact ⟨⟨rfl, rfl⟩, hp2⟩
    ·exact hk.elim
   ·cases htr
  ·cases htr
 ·-- buildSlice
  rename_i t n ps ho
  simp only [execOp, ho, parts_split]
  split at htr
  ·rename_i e ht
   split at htr
   ·rename_i s zs hs hz
    split at htr
    ·rename_i qs hqs
     obtain ⟨hg, rfl⟩ := gd_some htr
     simp only [Bool.and_eq_true, beq_iff_eq, decide_eq_true_eq] at hg
     simp only [evK] at hk
     split at hk
     ·rename_i cs hcs
      obtain ⟨hl, hp⟩ := trParts_sound (C := C) he hqs
      refine NextOK.of_done (bsl_sound h ht hs hz hg.1 hg.2 hl (fun j o s x i c hj hq => ?_) hcs frz hk)
      obtain ⟨hp1, hp2⟩ := hp j o s x i c hj hq
      cases hp1
      exact ⟨⟨rfl, rfl⟩, hp2⟩
     ·exact hk.elim
    ·cases htr
   ·cases htr
  ·cases htr
 ·-- load
  rename_i t x ho
  simp only [execOp, ho]
  split at htr
  ·rename_i y ha hx
   cases htr
   exact NextOK.of_done (Done.eqσ (K := K) (ld1_sound (K := fun v => K v σ) h (trX_sound hx he) hk ha))
  ·rename_i n y ha hn hx
   cases htr
   exact NextOK.of_done (Done.eqσ (K := K) (ldA_sound (K := fun v => K v σ) h (trX_sound hx he) hk ha hn))
  ·cases htr
 ·-- store
  rename_i t x v ho
  simp only [execOp, ho]
  split at htr
  ·rename_i n x' y' ha hn hx hy
   obtain ⟨hg, rfl⟩ := gd_some htr
   simp only [beq_iff_eq] at hg
   subst hg
   exact NextOK.of_doneU (st1_sound h (trX_sound hx he) (trX_sound hy he) hk hn)
  ·rename_i n x' y' ha hn hx hy
   cases htr
   exact NextOK.of_doneU (stA_sound h (trX_sound hx he) (trX_sound hy he) hk hn)
  ·cases htr
 ·-- nilCheck
  rename_i x ho
  simp only [Option.map_eq_some_iff] at htr
  obtain ⟨y, hy, rfl⟩ := htr
  obtain ⟨v, h1, h2, h3⟩ := nilc_sound (K := fun v => K v σ) h (trX_sound hy he) hk a.eval x rfl o ho
  exact NextOK.of_val h1 h h2 h3
 ·-- binOp
  rename_i op t x y r ho
  simp only [execOp, ho]
  split at htr
  ·rename_i x' y' hx hy
   split at htr
   ·rename_i e ht
    split at htr
    ·cases htr
     exact NextOK.of_done (Done.eqσ (K := K) (snil_sound (K := fun v => K v σ) (neq := false) h (trX_sound hx he) ht hk x _))
    ·cases htr
     exact NextOK.of_done (Done.eqσ (K := K) (snil_sound (K := fun v => K v σ) (neq := true) h (trX_sound hx he) ht hk x _))
    ·cases htr
   ·cases htr
    exact NextOK.of_done (Done.eqσ (K := K) (bin_sound (K := fun v => K v σ) h (trX_sound hx he) (trX_sound hy he) hk t x y))
   ·rename_i ht
    split at htr
    ·cases htr
     exact NextOK.of_done (Done.eqσ (K := K) (eqb_sound (K := fun v => K v σ) (neq := false) h (trX_sound hx he) (trX_sound hy he) ht hk x y))
    ·cases htr
     exact NextOK.of_done (Done.eqσ (K := K) (eqb_sound (K := fun v => K v σ) (neq := true) h (trX_sound hx he) (trX_sound hy he) ht hk x y))
    ·cases htr
   ·split at htr
    ·rename_i q n hq
     cases htr
     exact NextOK.of_done (Done.eqσ (K := K) (eqv_sound (K := fun v => K v σ) (neq := false) h (trX_sound hx he) (trX_sound hy he) hq hk x y))
    ·rename_i q n hq
     cases htr
     exact NextOK.of_done (Done.eqσ (K := K) (eqv_sound (K := fun v => K v σ) (neq := true) h (trX_sound hx he) (trX_sound hy he) hq hk x y))
    ·cases htr
  ·cases htr
 ·-- unOp
  rename_i op t x ho
  simp only [execOp, ho]
  split at htr
  ·simp only [Option.map_eq_some_iff] at htr
   obtain ⟨y, hy, rfl⟩ := htr
   have hv := trX_sound hy he
   simp only [evK] at hk
   revert hk
   generalize Od.ev env y = v at hv
   intro hk
   exact NextOK.of_done (not_sound (K := K) h hv (by cases v <;> exact hk))
  ·simp only [Option.map_eq_some_iff] at htr
   obtain ⟨y, hy, rfl⟩ := htr
   have hv := trX_sound hy he
   simp only [evK] at hk
   revert hk
   generalize Od.ev env y = v at hv
   intro hk
   exact NextOK.of_done (neg_sound (K := K) h hv (by cases v <;> exact hk))
  ·simp only [Option.map_eq_some_iff] at htr
   obtain ⟨y, hy, rfl⟩ := htr
   have hv := trX_sound hy he
   simp only [evK] at hk
   revert hk
   generalize Od.ev env y = v at hv
   intro hk
   exact NextOK.of_done (com_sound (K := K) h hv (by cases v <;> exact hk))
  ·cases htr
 ·-- convert
  rename_i s d x ho
  simp only [execOp, ho]
  split at htr
  ·rename_i u k y hs hd hx
   cases htr
   have hv := trX_sound hx he
   simp only [evK] at hk
   revert hk
   generalize Od.ev env y = v at hv
   intro hk
   exact NextOK.of_done (conv_sound (K := K) h hv (by cases v <;> exact hk) (by rw [hs]; rfl) hd)
  ·cases htr
 ·-- makeFunc
  rename_i fn xs ys ho
  simp only [execOp, ho]
  split at htr
  ·rename_i ps qs hp hq
   cases htr
   have h1 := trXs_sound (C := C) he hp
   have h2 := trXs_sound (C := C) he hq
   have hr : (Instr.makeFunc fn (xs.map a.eval) (ys.map a.eval)).run P C.w = .ok (.func fn (xs.map a.eval) (ys.map a.eval)) C.w := by simp [Instr.makeFunc]
   refine NextOK.of_done ?_
   rw [hr]
   refine Done.same h (.f fn _ _ _ _ (by simpa using h1.1) (by simpa using h2.1) (fun j x c hx hc => h1.2 j x c hx (by rw [← hc]; simp)) (fun j x c hx hc => h2.2 j x c hx (by rw [← hc]; simp))) hk
  ·cases htr
 ·-- makeMap
  rename_i t ho
  simp only [execOp, ho]
  cases htr
  exact NextOK.of_done (mkmap_sound h t hk)
 ·-- makeSlice
  rename_i t l c ho
  simp only [execOp, ho]
  split at htr
  ·rename_i e x y ht hx hy
   split at htr
   ·rename_i i zs hi hz
    obtain ⟨hg, rfl⟩ := gd_some htr
    simp only [beq_iff_eq] at hg
    have hv := trX_sound hx he
    have hw := trX_sound hy he
    simp only [evK] at hk
    revert hk
    generalize Od.ev env x = v at hv
    generalize Od.ev env y = v' at hw
    intro hk
    exact NextOK.of_done (mksl_sound (K := K) h hv hw ht hi hz hg (by cases v <;> cases v' <;> exact hk))
   ·cases htr
  ·cases htr
 ·-- slice
  rename_i t x lo hi mx ho
  simp only [execOp, ho]
  split at htr
  ·rename_i y l hh m hx hl hhi hm
   obtain ⟨l1, l2⟩ := trO_sound (C := C) he hl
   obtain ⟨h1, h2⟩ := trO_sound (C := C) he hhi
   obtain ⟨m1, m2⟩ := trO_sound (C := C) he hm
   split at htr
   ·rename_i e ht
    simp only [Option.map_eq_some_iff] at htr
    obtain ⟨s, hs, rfl⟩ := htr
    exact NextOK.of_done (Done.eqσ (K := K) (slc_sound (K := fun v => K v σ) h (trX_sound hx he) ht hs l1 l2 h1 h2 m1 m2 hk))
   ·rename_i n e ht
    split at htr
    ·simp only [Option.map_eq_some_iff] at htr
     obtain ⟨s, hs, rfl⟩ := htr
     have e1 : lo = none := by simpa using l2
     have e2 : hi = none := by simpa using h2
     have e3 : mx = none := by simpa using m2
     subst e1; subst e2; subst e3
     exact NextOK.of_done (Done.eqσ (K := K) (sla_sound (K := fun v => K v σ) h (trX_sound hx he) ht hs hk))
    ·cases htr
   ·cases htr
  ·cases htr
 ·-- fieldAddr
  rename_i s x f ho
  simp only [execOp, ho]
  split at htr
  ·rename_i fs y hs hx
   split at htr
   ·rename_i fl hf
    split at htr
    ·rename_i n hn
     obtain ⟨hg, rfl⟩ := gd_some htr
     simp only [bne_iff_ne, ne_eq] at hg
     exact NextOK.of_done (Done.eqσ (K := K) (fad_sound (K := fun v => K v σ) h (trX_sound hx he) hs hf hn hg hk))
    ·cases htr
   ·cases htr
  ·cases htr
 ·-- field
  rename_i s x f ho
  simp only [execOp, ho]
  split at htr
  ·rename_i fs y hs hx
   split at htr
   ·rename_i fl hf
    split at htr
    ·rename_i ha
     cases htr
     have hv := trX_sound hx he
     simp only [evK] at hk
     revert hk
     generalize Od.ev env y = v at hv
     intro hk
     exact NextOK.of_done (Done.eqσ (K := K) (fld1_sound (K := fun v => K v σ) h hv hs hf ha (by cases v <;> exact hk)))
    ·rename_i n ha hn
     cases htr
     have hv := trX_sound hx he
     simp only [evK] at hk
     revert hk
     generalize Od.ev env y = v at hv
     intro hk
     exact NextOK.of_done (Done.eqσ (K := K) (fldA_sound (K := fun v => K v σ) h hv hs hf ha hn (by cases v <;> exact hk)))
    ·cases htr
   ·cases htr
  ·cases htr
 ·-- indexAddr
  rename_i t x i ho
  simp only [execOp, ho]
  split at htr
  ·rename_i y j hx hi
   split at htr
   ·rename_i n e ht
    simp only [Option.map_eq_some_iff] at htr
    obtain ⟨s, hs, rfl⟩ := htr
    exact NextOK.of_done (Done.eqσ (K := K) (ixa_sound (K := fun v => K v σ) h (trX_sound hx he) (trX_sound hi he) ht hs hk))
   ·rename_i e ht
    simp only [Option.map_eq_some_iff] at htr
    obtain ⟨s, hs, rfl⟩ := htr
    exact NextOK.of_done (Done.eqσ (K := K) (ixs_sound (K := fun v => K v σ) h (trX_sound hx he) (trX_sound hi he) ht hs hk))
   ·cases htr
  ·cases htr
 ·-- index
  rename_i t x i ho
  simp only [execOp, ho]
  split at htr
  ·rename_i y j n e hx hi ht
   split at htr
   ·rename_i s ha hs
    obtain ⟨hg, rfl⟩ := gd_some htr
    simp only [beq_iff_eq] at hg
    exact NextOK.of_done (Done.eqσ (K := K) (ixv_sound (K := fun v => K v σ) h (trX_sound hx he) (trX_sound hi he) ht hs (.inl ⟨rfl, hg, ha⟩) hk))
   ·rename_i s ha hs
    cases htr
    exact NextOK.of_done (Done.eqσ (K := K) (ixv_sound (K := fun v => K v σ) h (trX_sound hx he) (trX_sound hi he) ht hs (.inr ⟨rfl, ha⟩) hk))
   ·cases htr
  ·rename_i y j hx hi ht
   cases htr
   exact NextOK.of_done (Done.eqσ (K := K) (sidx_sound (K := fun v => K v σ) h (trX_sound hx he) (trX_sound hi he) ht hk))
  ·cases htr
 ·-- lookup
  rename_i t x k ok ho
  simp only [execOp, ho]
  split at htr
  ·rename_i key e y z ht hx hkk
   split at htr
   ·rename_i q n zv hkey hz ha
    split at htr
    ·rename_i i hi
     split at htr
     ·rename_i v hv
      obtain ⟨hg, rfl⟩ := gd_some htr
      exact NextOK.of_done (Done.eqσ (K := K) (lkp_sound (K := fun v => K v σ) h (trX_sound hx he) (trX_sound hkk he) ht hkey hz (.inl ha) (fun z' _ hz' => by
       obtain ⟨i', hi', hz'⟩ := hz'
       rw [hi] at hi'; cases hi'
       rw [hv] at hz'; cases hz'
       exact hg) hk))
     ·cases htr
    ·cases htr
   ·cases htr
  ·cases htr
 ·-- mapUpdate
  rename_i t m k v ho
  simp only [execOp, ho]
  split at htr
  ·rename_i key e x y z ht hx hy hz
   split at htr
   ·rename_i q n hkey
    cases htr
    exact NextOK.of_doneU (mset_sound h (trX_sound hx he) (trX_sound hy he) (trX_sound hz he) ht hkey hk)
   ·cases htr
  ·cases htr
 ·-- mapEntry
  rename_i t x k ho
  simp only [execOp, ho]
  split at htr
  ·rename_i key e y z ht hx hkk
   split at htr
   ·rename_i q n zv hkey hz
    split at htr
    ·rename_i i hi
     split at htr
     ·rename_i v hv
      obtain ⟨hg, rfl⟩ := gd_some htr
      exact NextOK.of_done (ment_sound h (trX_sound hx he) (trX_sound hkk he) ht hkey hz (fun z' _ hz' => by
       obtain ⟨i', hi', hz'⟩ := hz'
       rw [hi] at hi'; cases hi'
       rw [hv] at hz'; cases hz'
       exact hg) hk)
     ·cases htr
    ·cases htr
   ·cases htr
  ·cases htr
 ·-- entryStore
  rename_i t x s v ho
  simp only [execOp, ho]
  split at htr
  ·rename_i y z w hx hs hv
   cases htr
   exact NextOK.of_doneU (mest_sound h (trX_sound hx he) (trX_sound hs he) (trX_sound hv he) hk)
  ·cases htr
 ·-- range
  rename_i t x ho
  simp only [execOp, ho]
  split at htr
  ·rename_i k e y ht hx
   cases htr
   exact NextOK.of_done (rng_sound h (trX_sound hx he) ht hk)
  ·cases htr
 ·-- next
  rename_i x ho
  simp only [execOp, ho]
  simp only [Option.map_eq_some_iff] at htr
  obtain ⟨y, hy, rfl⟩ := htr
  exact NextOK.of_done (nxt_sound h (trX_sound hy he) o.type hk)
 ·-- entry
  rename_i x ho
  simp only [execOp, ho]
  simp only [Option.map_eq_some_iff] at htr
  obtain ⟨y, hy, rfl⟩ := htr
  exact NextOK.of_done (Done.eqσ (K := K) (ent_sound (K := fun v => K v σ) h (trX_sound hy he) hk))
 ·-- extract
  rename_i x i ho
  simp only [execOp, ho]
  simp only [Option.map_eq_some_iff] at htr
  obtain ⟨y, hy, rfl⟩ := htr
  exact NextOK.of_done (Done.eqσ (K := K) (ext_sound (K := fun v => K v σ) h (trX_sound hy he) hk))
 ·-- call
  rename_i c ho
  split at htr
  ·simp only [Option.map_eq_some_iff] at htr
   obtain ⟨y, hy, rfl⟩ := htr
   exact (hk : False).elim
  ·split at htr
   ·cases htr
    exact (hk : False).elim
   ·cases htr
  ·rename_i b hb
   exact builtin_sound h he ho hb htr hk
  ·cases htr
 ·cases htr
end
end Go.Ab
end
section
namespace Go.Ab
open Go
mutual
def V.pure : V → Bool
 | .u => true
 | .b _ => true
 | .i _ _ => true
 | .str _ => true
 | .np => true
 | .p _ _ _ => false
 | .sp cs _ => pureL cs
 | .s _ _ _ _ _ => false
 | .ss cs _ _ => pureL cs
 | .nm => true
 | .m _ => false
 | .sm es => pureM es
 | .nf => true
 | .f _ a b => pureL a && pureL b
 | .agg cs => pureL cs
 | .tup vs => pureL vs
def pureL : List V → Bool
 | [] => true
 | v :: r => v.pure && pureL r
def pureM : List (V × V) → Bool
 | [] => true
 | e :: r => pureE e && pureM r
def pureE : V × V → Bool
 | (a, b) => a.pure && b.pure
end
theorem pureL_all : ∀ {l : List V}, pureL l = true ↔ ∀ v ∈ l, v.pure = true
 | [] => by simp [pureL]
 | v :: r => by simp [pureL, pureL_all (l := r)]
theorem pureM_all : ∀ {l : List (V × V)}, pureM l = true ↔ ∀ e ∈ l, e.1.pure = true ∧ e.2.pure = true
 | [] => by simp [pureM]
 | (a, b) :: r => by simp [pureM, pureM_all (l := r), pureE]
theorem pureL_get {l : List V} (h : pureL l = true) {j : Nat} {x : V} (hx : l[j]? = some x) : x.pure = true := pureL_all.1 h x (List.mem_of_getElem? hx)
def frz : Nat → Nat → List O → V → V
 | 0, _, _, _ => .u
 | k + 1, n, σ, v =>
  if v.pure then v else
  match v with
  | .p id ver off => if id < n then .p id ver off else
   match σ[id]? with
   | some (.row ver' cells) => if ver' = ver then .sp (cells.map (frz k n σ)) off else .u
   | _ => .u
  | .s id ver off len es => if id < n then .s id ver off len es else
   match σ[id]? with
   | some (.row ver' cells) => if ver' = ver ∧ off + len * es ≤ cells.length then .ss (((cells.drop off).take (len * es)).map (frz k n σ)) len false else .u
   | _ => .u
  | .m id => if id < n then .m id else
   match σ[id]? with
   | some (.map es _) => .sm (es.map fun e => (frz k n σ e.2.1, frz k n σ e.2.2))
   | _ => .u
  | .sp cs off => .sp (cs.map (frz k n σ)) off
  | .ss cs len full => .ss (cs.map (frz k n σ)) len full
  | .sm es => .sm (es.map fun e => (frz k n σ e.1, frz k n σ e.2))
  | .f fn a b => .f fn (a.map (frz k n σ)) (b.map (frz k n σ))
  | .agg cs => .agg (cs.map (frz k n σ))
  | .tup cs => .tup (cs.map (frz k n σ))
  | v => v
def frzO (k n : Nat) (σ : List O) : O → O
 | .row ver cells => .row ver (cells.map (frz k n σ))
 | .map es clock => .map (es.map fun e => (e.1, frz k n σ e.2.1, frz k n σ e.2.2)) clock
 | .it mid since seen stepped => if mid < n then .it mid since seen stepped else .dead 0
 | .dead ver => .dead ver
def frzS (k n : Nat) (σ : List O) : List O := (σ.take n).map (frzO k n σ)
def Cx.trunc (C : Cx) (n : Nat) : Cx := { ρ := C.ρ.take n, vs := C.vs.take n, Z := fun b => C.Z b ∨ ∃ i p, n ≤ i ∧ C.ρ[i]? = some (b, p), w := C.w }
section
variable {C : Cx} {σ : List O} {n : Nat}
theorem take_get {α : Type} {l : List α} {n i : Nat} {x : α} (h : i < n) (hx : l[i]? = some x) : (l.take n)[i]? = some x := by
 rw [List.getElem?_take, if_pos h]; exact hx
theorem get_take {α : Type} {l : List α} {n i : Nat} {x : α} (hx : (l.take n)[i]? = some x) : i < n ∧ l[i]? = some x := by
 rw [List.getElem?_take] at hx
 split at hx
 ·exact ⟨by assumption, hx⟩
 ·cases hx
theorem VR.pure {C' : Cx} (hz : ∀ b, C.Z b → C'.Z b) (hw : C'.w = C.w) {x : V} {c : Value} (h : VR C x c) (hp : x.pure = true) : VR C' x c := by
 induction h with
 | u c => exact .u c
 | b x => exact .b x
 | i k n => exact .i k n
 | str s => exact .str s
 | np => exact .np
 | p => simp [V.pure] at hp
 | p0 => simp [V.pure] at hp
 | sp cells off blk base cs hz' hl h1 hc hv ih =>
  simp only [V.pure] at hp
  exact .sp cells off blk base cs (hz _ hz') hl h1 (fun j c hj => by rw [hw]; exact hc j c hj) (fun j x c hx hc' => ih j x c hx hc' (pureL_get hp hx))
 | s => simp [V.pure] at hp
 | s0 => simp [V.pure] at hp
 | ss0 a cap => exact .ss0 a cap
 | ssn a => exact .ssn a
 | ss cells len full blk base cap cs hz' hl h1 hc hv hlc hf ih =>
  simp only [V.pure] at hp
  exact .ss cells len full blk base cap cs (hz _ hz') hl h1 (fun j c hj => by rw [hw]; exact hc j c hj) (fun j x c hx hc' => ih j x c hx hc' (pureL_get hp hx)) hlc hf
 | nm => exact .nm
 | m => simp [V.pure] at hp
 | m0 => simp [V.pure] at hp
 | sm l blk es clock hz' hb hl hk hv ihk ihv =>
  simp only [V.pure] at hp
  exact .sm l blk es clock (hz _ hz') (by rw [hw]; exact hb) hl (fun j k v e hj he => ihk j k v e hj he (pureM_all.1 hp _ (List.mem_of_getElem? hj)).1)
   (fun j k v e hj he => ihv j k v e hj he (pureM_all.1 hp _ (List.mem_of_getElem? hj)).2)
 | nf => exact .nf
 | f fn first cap cf cc hl1 hl2 h1 h2 ih1 ih2 =>
  simp only [V.pure, Bool.and_eq_true] at hp
  exact .f fn first cap cf cc hl1 hl2 (fun j x c hx hc => ih1 j x c hx hc (pureL_get hp.1 hx)) (fun j x c hx hc => ih2 j x c hx hc (pureL_get hp.2 hx))
 | agg cells cs hl h1 hv ih =>
  simp only [V.pure] at hp
  exact .agg cells cs hl h1 (fun j x c hx hc => ih j x c hx hc (pureL_get hp hx))
 | tup vs cs hl hv ih =>
  simp only [V.pure] at hp
  exact .tup vs cs hl (fun j x c hx hc => ih j x c hx hc (pureL_get hp hx))
theorem trunc_wf (wf : Wf C) : Wf (C.trunc n) where
 len := by simp [Cx.trunc, wf.len]
 inj := fun i j b p q hi hj => wf.inj i j b p q (get_take hi).2 (get_take hj).2
 lt := fun i b p hi => wf.lt i b p (get_take hi).2
 zlt := fun b hb => by
  rcases hb with hb | ⟨i, p, _, hi⟩
  ·exact wf.zlt b hb
  ·exact wf.lt i b p hi
 zρ := fun i b p hi hb => by
  obtain ⟨h1, h2⟩ := get_take hi
  rcases hb with hb | ⟨j, q, hj, hj'⟩
  ·exact wf.zρ i b p h2 hb
  ·have := wf.inj i j b p q h2 hj'
   omega
theorem trunc_ext {C0 : Cx} (h : Ext C0 C) (wf0 : Wf C0) (hn : C0.vs.length ≤ n) : Ext C0 (C.trunc n) where
 os := h.os
 tape := h.tape
 output := h.output
 size := h.size
 frame := h.frame
 z := fun b hb => .inl (h.z b hb)
 nz := fun b hb => by
  rcases hb with hb | ⟨i, p, hi, hp⟩
  ·exact h.nz b hb
  ·rcases h.nρ i b p hp with ⟨q, hq⟩ | hs
   ·have := (List.getElem?_eq_some_iff.1 hq).1
    have := wf0.len
    omega
   ·exact .inr hs
 nρ := fun i b p hi => h.nρ i b p (get_take hi).2
 vs := fun i v hv => by
  obtain ⟨v', h1, h2⟩ := h.vs i v hv
  have := (List.getElem?_eq_some_iff.1 hv).1
  exact ⟨v', take_get (by omega) h1, h2⟩
 same := fun i v b p hv hv' hb => by
  have := (List.getElem?_eq_some_iff.1 hv).1
  obtain ⟨h1, h2⟩ := h.same i v b p hv (get_take hv').2 hb
  exact ⟨take_get (by omega) h1, h2⟩
theorem frz_sound (h : R C σ) : ∀ (k : Nat) {x : V} {c : Value}, VR C x c → VR (C.trunc n) (frz k n σ x) c := by
 intro k
 induction k with
 | zero => intro x c _; exact .u c
 | succ k ih =>
  intro x c hx
  unfold frz
  by_cases hp : x.pure = true
  ·rw [if_pos hp]
   exact hx.pure (C' := C.trunc n) (fun b hb => Or.inl hb) rfl hp
  ·rw [if_neg hp]
   have mapv : ∀ {xs : List V} {cs : List Value}, (∀ (j : Nat) (x : V) (c : Value), xs[j]? = some x → cs[j]? = some c → VR C x c) →
     ∀ (j : Nat) (x : V) (c : Value), (xs.map (frz k n σ))[j]? = some x → cs[j]? = some c → VR (C.trunc n) x c := by
    intro xs cs hv j x c hx hc
    rw [List.getElem?_map, Option.map_eq_some_iff] at hx
    obtain ⟨y, hy, rfl⟩ := hx
    exact ih (hv j y c hy hc)
   have mapa : ∀ {xs : List V} {cs : Array Value}, (∀ (j : Nat) (x : V) (c : Value), xs[j]? = some x → cs[j]? = some c → VR C x c) →
     ∀ (j : Nat) (x : V) (c : Value), (xs.map (frz k n σ))[j]? = some x → cs[j]? = some c → VR (C.trunc n) x c := by
    intro xs cs hv j x c hx hc
    rw [List.getElem?_map, Option.map_eq_some_iff] at hx
    obtain ⟨y, hy, rfl⟩ := hx
    exact ih (hv j y c hy hc)
   cases hx with
   | u c => exact .u c
   | b x => exact .b x
   | i k n => exact .i k n
   | str s => exact .str s
   | np => exact .np
   | p id ver off blk bs hρ hv =>
    simp only
    split
    ·rename_i hlt
     exact .p id ver off blk bs (take_get hlt hρ) (take_get hlt hv)
    ·rename_i hlt
     split
     ·rename_i ver' cells ho
      split
      ·rename_i hver
       have hOR := h.obj id _ blk bs ho hρ
       cases hOR with
       | row _ _ cc t hb hl h1 hvv =>
        refine .sp _ off blk bs (cc.toList.drop bs |>.take cells.length) (.inr ⟨id, bs, by omega, hρ⟩) ?_ ?_ ?_ ?_
        ·simp; omega
        ·intro c hc
         exact h1 c (by simpa using List.mem_of_mem_drop (List.mem_of_mem_take hc))
        ·intro j c hj
         rw [List.getElem?_take] at hj
         split at hj
         ·rw [List.getElem?_drop] at hj
          have : cc[bs + j]? = some c := by simpa using hj
          show C.w.cell? ⟨blk, bs + j, none⟩ = some c
          simp [World.cell?, hb, this]
         ·cases hj
        ·refine mapv (fun j x c hx hc => ?_)
         rw [List.getElem?_take] at hc
         split at hc
         ·rw [List.getElem?_drop] at hc
          exact hvv j x c hx (by simpa using hc)
         ·cases hc
      ·exact .u _
     ·exact .u _
   | p0 id ver off v _ h1 hv hl =>
    simp only
    split
    ·rename_i hlt
     exact .p0 id ver off v c h1 (take_get hlt hv) hl
    ·split
     ·rename_i ver' cells ho
      split
      ·rename_i hver
       have := h.ver id _ ho
       rw [hv] at this
       simp only [O.ver, Option.some.injEq] at this
       omega
      ·exact .u _
     ·exact .u _
   | sp cells off blk base cs hz hl h1 hc hv =>
    exact .sp _ off blk base cs (.inl hz) (by simpa using hl) h1 hc (mapv hv)
   | s id ver off len es blk bs at_ cap cc t hρ hv hlc hb hs ha =>
    simp only
    split
    ·rename_i hlt
     exact .s id ver off len es blk bs at_ cap cc t (take_get hlt hρ) (take_get hlt hv) hlc hb hs ha
    ·rename_i hlt
     split
     ·rename_i ver' cells ho
      split
      ·rename_i hver
       have hOR := h.obj id _ blk bs ho hρ
       cases hOR with
       | row _ _ cc' t' hb' hl h1 hvv =>
        rw [hb] at hb'
        cases hb'
        by_cases hcap : cap = 0
        ·have hl0 : len = 0 := by omega
         subst hl0
         simp only [Nat.zero_mul, List.take_zero, List.map_nil]
         subst hcap
         exact .ss0 _ _
        ·have hat := ha hcap
         subst hat
         refine .ss _ len false blk (bs + off) cap (cc.toList.drop (bs + off) |>.take (len * es)) (.inr ⟨id, bs, by omega, hρ⟩) ?_ ?_ ?_ ?_ hlc (by simp)
         ·have h7 := hver.2
          have : len * es ≤ cap * es := Nat.mul_le_mul_right _ hlc
          simp; omega
         ·intro c hc
          exact h1 c (by simpa using List.mem_of_mem_drop (List.mem_of_mem_take hc))
         ·intro j c hj
          rw [List.getElem?_take] at hj
          split at hj
          ·rw [List.getElem?_drop] at hj
           have : cc[bs + off + j]? = some c := by simpa using hj
           show C.w.cell? ⟨blk, bs + off + j, none⟩ = some c
           simp [World.cell?, hb, this]
          ·cases hj
         ·refine mapv (fun j x c hx hc => ?_)
          rw [List.getElem?_take] at hc hx
          split at hc
          ·rename_i hj
           rw [if_pos hj] at hx
           rw [List.getElem?_drop] at hc hx
           exact hvv (off + j) x c hx (by simpa [Nat.add_assoc] using hc)
          ·cases hc
      ·exact .u _
     ·exact .u _
   | s0 id ver off len es v _ h1 hv hl =>
    simp only
    split
    ·rename_i hlt
     exact .s0 id ver off len es v c h1 (take_get hlt hv) hl
    ·split
     ·rename_i ver' cells ho
      split
      ·rename_i hver
       have := h.ver id _ ho
       rw [hv] at this
       simp only [O.ver, Option.some.injEq] at this
       omega
      ·exact .u _
     ·exact .u _
   | ss0 a cap => exact .ss0 a cap
   | ssn a => exact .ssn a
   | ss cells len full blk base cap cs hz hl h1 hc hv hlc hf =>
    exact .ss _ len full blk base cap cs (.inl hz) (by simpa using hl) h1 hc (mapv hv) hlc hf
   | nm => exact .nm
   | m id blk bs hρ hv =>
    simp only
    split
    ·rename_i hlt
     exact .m id blk bs (take_get hlt hρ) (take_get hlt hv)
    ·rename_i hlt
     split
     ·rename_i es clock ho
      have hOR := h.obj id _ blk bs ho hρ
      cases hOR with
      | map _ _ ces hb hl hvv =>
       refine .sm _ blk ces clock (.inr ⟨id, bs, by omega, hρ⟩) hb (by simpa using hl) ?_ ?_
       ·intro j kk v e hj he
        rw [List.getElem?_map, Option.map_eq_some_iff] at hj
        obtain ⟨⟨b, k', v'⟩, hj, hE⟩ := hj
        cases hE
        exact ih (hvv j b k' v' e hj he).2.1
       ·intro j kk v e hj he
        rw [List.getElem?_map, Option.map_eq_some_iff] at hj
        obtain ⟨⟨b, k', v'⟩, hj, hE⟩ := hj
        cases hE
        exact ih (hvv j b k' v' e hj he).2.2
     ·exact .u _
   | m0 id v _ h1 hv hl =>
    simp only
    split
    ·rename_i hlt
     exact .m0 id v c h1 (take_get hlt hv) hl
    ·split
     ·rename_i es clock ho
      have := h.ver id _ ho
      rw [hv] at this
      simp only [O.ver, Option.some.injEq] at this
      omega
     ·exact .u _
   | sm l blk es clock hz hb hl hk hv =>
    refine .sm _ blk es clock (.inl hz) hb (by simpa using hl) ?_ ?_
    ·intro j kk v e hj he
     rw [List.getElem?_map, Option.map_eq_some_iff] at hj
     obtain ⟨⟨k', v'⟩, hj, hE⟩ := hj
     cases hE
     exact ih (hk j k' v' e hj he)
    ·intro j kk v e hj he
     rw [List.getElem?_map, Option.map_eq_some_iff] at hj
     obtain ⟨⟨k', v'⟩, hj, hE⟩ := hj
     cases hE
     exact ih (hv j k' v' e hj he)
   | nf => exact .nf
   | f fn first cap cf cc hl1 hl2 h1 h2 => exact .f fn _ _ cf cc (by simpa using hl1) (by simpa using hl2) (mapa h1) (mapa h2)
   | agg cells cs hl h1 hv => exact .agg _ cs (by simpa using hl) h1 (mapa hv)
   | tup vs cs hl hv => exact .tup _ cs (by simpa using hl) (mapa hv)
theorem frzS_sound (h : R C σ) (k : Nat) (hn : n ≤ σ.length) : R (C.trunc n) (frzS k n σ) where
 wf := trunc_wf h.wf
 len := by simp [frzS, Cx.trunc, h.len]
 ver := fun id o ho => by
  simp only [frzS, List.getElem?_map, Option.map_eq_some_iff] at ho
  obtain ⟨o', ho', rfl⟩ := ho
  obtain ⟨hlt, ho'⟩ := get_take ho'
  have := h.ver id o' ho'
  refine (take_get hlt this).trans ?_
  cases o' with
  | row => rfl
  | map => rfl
  | it mid since seen stepped => simp only [frzO]; split <;> rfl
  | dead => rfl
 obj := fun id o blk bs ho hb => by
  simp only [frzS, List.getElem?_map, Option.map_eq_some_iff] at ho
  obtain ⟨o', ho', rfl⟩ := ho
  obtain ⟨hlt, ho'⟩ := get_take ho'
  obtain ⟨_, hb⟩ := get_take hb
  have hOR := h.obj id o' blk bs ho' hb
  cases hOR with
  | row ver cells cc t hb hl h1 hv =>
   refine .row ver _ cc t hb (by simpa using hl) h1 (fun j x c hx hc => ?_)
   rw [List.getElem?_map, Option.map_eq_some_iff] at hx
   obtain ⟨y, hy, rfl⟩ := hx
   exact frz_sound h k (hv j y c hy hc)
  | map es clock ces hb hl hv =>
   refine .map _ clock ces hb (by simpa using hl) (fun j b kk v e hj he => ?_)
   rw [List.getElem?_map, Option.map_eq_some_iff] at hj
   obtain ⟨⟨b', k', v'⟩, hj, hE⟩ := hj
   cases hE
   obtain ⟨e1, e2, e3⟩ := hv j b' k' v' e hj he
   exact ⟨e1, frz_sound h k e2, frz_sound h k e3⟩
  | it mid since seen stepped mb h0 hm hb =>
   simp only [frzO]
   split
   ·rename_i hmid
    refine .it mid since seen stepped mb h0 ?_ hb
    cases hm with
    | m _ _ bs' hρ hv => exact .m mid mb bs' (take_get hmid hρ) (take_get hmid hv)
    | m0 _ v _ h1 hv hl => exact .m0 mid v _ h1 (take_get hmid hv) hl
   ·exact .dead 0
  | dead ver => exact .dead ver
end
end Go.Ab
end
section
namespace Go.Ab
open Go
abbrev Env := List (Nat × V)
def get : Env → Nat → V
 | [], _ => .u
 | (t, v) :: r, s => if t = s then v else get r s
def del : Env → Nat → Env
 | [], _ => []
 | (t, v) :: r, s => if t = s then del r s else (t, v) :: del r s
def put (e : Env) (d : Option Nat) (v : V) : Env :=
 match d with
 | none => e
 | some d => (d, v) :: del e d
def keep (e : Env) : List Nat → Env
 | [] => []
 | t :: r => (t, get e t) :: keep e r
def keepO (e : Env) : Option (List Nat) → Env
 | none => e
 | some l => keep e l
def frzE (k n : Nat) (σ : List O) (e : Env) : Env := e.map fun p => (p.1, frz k n σ p.2)
def entry (i : Nat) : List V → Env
 | [] => []
 | v :: r => (i, v) :: entry (i + 1) r
def puts (e : Env) : List Nat → List V → Env
 | p :: ps, v :: vs => puts (put e (some p) v) ps vs
 | _, _ => e
theorem get_del {e : Env} {s t : Nat} : get (del e s) t = if s = t then .u else get e t := by
 induction e with
 | nil => simp [del, get]
 | cons p r ih =>
  obtain ⟨q, v⟩ := p
  simp only [del]
  split
  ·rename_i h; subst h
   rw [ih]
   split
   ·rfl
   ·rename_i h; simp [get, h]
  ·rename_i h
   simp only [get]
   split
   ·rename_i h'; subst h'
    rw [if_neg (fun hE => h hE.symm)]
   ·rw [ih]
theorem get_put {e : Env} {d t : Nat} {v : V} : get (put e (some d) v) t = if d = t then v else get e t := by
 simp only [put, get, get_del]
 split
 ·rfl
 ·rfl
theorem get_keep {e : Env} {l : List Nat} {t : Nat} : get (keep e l) t = if t ∈ l then get e t else .u := by
 induction l with
 | nil => simp [keep, get]
 | cons p r ih =>
  simp only [keep, get, List.mem_cons]
  split
  ·rename_i h; subst h; simp
  ·rename_i h
   rw [ih]
   by_cases h2 : t ∈ r
   ·simp [h2]
   ·rw [if_neg h2, if_neg (by rintro (h3 | h3); exact h h3.symm; exact h2 h3)]
theorem get_frzE {k n : Nat} {σ : List O} {e : Env} {t : Nat} : get (frzE k n σ e) t = .u ∨ get (frzE k n σ e) t = frz k n σ (get e t) := by
 induction e with
 | nil => exact .inl rfl
 | cons p r ih =>
  obtain ⟨q, v⟩ := p
  show get ((q, frz k n σ v) :: frzE k n σ r) t = .u ∨ get ((q, frz k n σ v) :: frzE k n σ r) t = _
  simp only [get]
  split
  ·exact .inr rfl
  ·exact ih
inductive Lt (n : Nat) : V → Prop
 | u : Lt n .u
 | b (x : Bool) : Lt n (.b x)
 | i (k : IntKind) (x : Int) : Lt n (.i k x)
 | str (s : ByteArray) : Lt n (.str s)
 | np : Lt n .np
 | p (id ver off : Nat) (h : id < n) : Lt n (.p id ver off)
 | sp (cells : List V) (off : Nat) (h : ∀ x ∈ cells, Lt n x) : Lt n (.sp cells off)
 | s (id ver off len es : Nat) (h : id < n) : Lt n (.s id ver off len es)
 | ss (cells : List V) (len : Nat) (full : Bool) (h : ∀ x ∈ cells, Lt n x) : Lt n (.ss cells len full)
 | nm : Lt n .nm
 | m (id : Nat) (h : id < n) : Lt n (.m id)
 | sm (es : List (V × V)) (h : ∀ e ∈ es, Lt n e.1) (h' : ∀ e ∈ es, Lt n e.2) : Lt n (.sm es)
 | nf : Lt n .nf
 | f (fn : Fn) (a b : List V) (h : ∀ x ∈ a, Lt n x) (h' : ∀ x ∈ b, Lt n x) : Lt n (.f fn a b)
 | agg (cells : List V) (h : ∀ x ∈ cells, Lt n x) : Lt n (.agg cells)
 | tup (vs : List V) (h : ∀ x ∈ vs, Lt n x) : Lt n (.tup vs)
theorem lt_all {α : Type} {p : V → Prop} {xs : List V} {cs : List α} (hl : cs.length = xs.length) (h : ∀ (j : Nat) (x : V) (c : α), xs[j]? = some x → cs[j]? = some c → p x) : ∀ x ∈ xs, p x := by
 intro x hx
 obtain ⟨j, hj⟩ := List.mem_iff_getElem?.1 hx
 have hlt := (List.getElem?_eq_some_iff.1 hj).1
 exact h j x _ hj (List.getElem?_eq_getElem (by omega))
theorem VR.lt {C : Cx} {x : V} {c : Value} (h : VR C x c) : Lt C.vs.length x := by
 have lv : ∀ {id v : Nat}, C.vs[id]? = some v → id < C.vs.length := fun h => (List.getElem?_eq_some_iff.1 h).1
 induction h with
 | u c => exact .u
 | b x => exact .b x
 | i k n => exact .i k n
 | str s => exact .str s
 | np => exact .np
 | p id ver off blk bs h hv => exact .p _ _ _ (lv hv)
 | p0 id ver off v c h1 hv hl => exact .p _ _ _ (lv hv)
 | sp cells off blk base cs hz hl h1 hc hv ih => exact .sp _ _ (lt_all hl ih)
 | s id ver off len es blk bs at_ cap cc t h hv hlc hb hs ha => exact .s _ _ _ _ _ (lv hv)
 | s0 id ver off len es v c h1 hv hl => exact .s _ _ _ _ _ (lv hv)
 | ss0 a cap => exact .ss _ _ _ (by simp)
 | ssn a => exact .ss _ _ _ (by simp)
 | ss cells len full blk base cap cs hz hl h1 hc hv hlc hf ih => exact .ss _ _ _ (lt_all hl ih)
 | nm => exact .nm
 | m id blk bs h hv => exact .m _ (lv hv)
 | m0 id v c h1 hv hl => exact .m _ (lv hv)
 | sm l blk es clock hz hb hl hk hv ihk ihv =>
  refine .sm _ (fun e he => ?_) (fun e he => ?_)
  ·obtain ⟨j, hj⟩ := List.mem_iff_getElem?.1 he
   have hlt := (List.getElem?_eq_some_iff.1 hj).1
   exact ihk j e.1 e.2 _ hj (Array.getElem?_eq_getElem (by omega))
  ·obtain ⟨j, hj⟩ := List.mem_iff_getElem?.1 he
   have hlt := (List.getElem?_eq_some_iff.1 hj).1
   exact ihv j e.1 e.2 _ hj (Array.getElem?_eq_getElem (by omega))
 | nf => exact .nf
 | f fn first cap cf cc hl1 hl2 h1 h2 ih1 ih2 =>
  exact .f _ _ _ (lt_all (cs := cf.toList) (by simpa using hl1) (fun j x c hx hc => ih1 j x c hx (by simpa using hc))) (lt_all (cs := cc.toList) (by simpa using hl2) (fun j x c hx hc => ih2 j x c hx (by simpa using hc)))
 | agg cells cs hl h1 hv ih => exact .agg _ (lt_all (cs := cs.toList) (by simpa using hl) (fun j x c hx hc => ih j x c hx (by simpa using hc)))
 | tup vs cs hl hv ih => exact .tup _ (lt_all (cs := cs.toList) (by simpa using hl) (fun j x c hx hc => ih j x c hx (by simpa using hc)))
def LtO (n : Nat) : O → Prop
 | .row _ cells => ∀ x ∈ cells, Lt n x
 | .map es _ => ∀ e ∈ es, Lt n e.2.1 ∧ Lt n e.2.2
 | .it mid _ _ _ => mid < n
 | .dead _ => True
def LtAll (σ : List O) : Prop := ∀ o ∈ σ, LtO σ.length o
theorem R.ltAll {C : Cx} {σ : List O} (h : R C σ) : LtAll σ := by
 intro o ho
 obtain ⟨id, hid⟩ := List.mem_iff_getElem?.1 ho
 obtain ⟨blk, bs, hρ, -, hOR⟩ := h.blk hid
 rw [h.len]
 cases hOR with
 | row ver cells cc t hb hl h1 hv =>
  intro x hx
  obtain ⟨j, hj⟩ := List.mem_iff_getElem?.1 hx
  have hlt := (List.getElem?_eq_some_iff.1 hj).1
  exact (hv j x _ hj (Array.getElem?_eq_getElem (by omega))).lt
 | map es clock ces hb hl hv =>
  intro e he
  obtain ⟨j, hj⟩ := List.mem_iff_getElem?.1 he
  have hlt := (List.getElem?_eq_some_iff.1 hj).1
  obtain ⟨-, a, b⟩ := hv j e.1 e.2.1 e.2.2 _ hj (Array.getElem?_eq_getElem (by omega))
  exact ⟨a.lt, b.lt⟩
 | it mid since seen stepped mb h0 hm hb =>
  have := hm.lt
  cases this with
  | m _ h => exact h
 | dead ver => trivial
theorem frz_u {k n : Nat} {σ : List O} : frz k n σ .u = .u := by cases k <;> rfl
theorem map_deep {p : Nat → V → Prop} (hp : ∀ k k' x, k ≤ k' → p k x → p k' x) : ∀ {l : List V}, (∀ x ∈ l, ∃ k, p k x) → ∃ k, ∀ x ∈ l, p k x
 | [], _ => ⟨0, by simp⟩
 | x :: r, h => by
  obtain ⟨a, ha⟩ := h x (List.mem_cons_self ..)
  obtain ⟨b, hb⟩ := map_deep hp (l := r) (fun y hy => h y (List.mem_cons_of_mem _ hy))
  refine ⟨max a b, fun y hy => ?_⟩
  rcases List.mem_cons.1 hy with rfl | hy
  ·exact hp a _ _ (by omega) ha
  ·exact hp b _ _ (by omega) (hb y hy)
def deep (n : Nat) (k0 : Nat) (x : V) : Prop := ∀ k, k0 ≤ k → ∀ σ, frz k n σ x = x
theorem deep_mono {n : Nat} (k k' : Nat) (x : V) (h : k ≤ k') (hd : deep n k x) : deep n k' x := fun j hj σ => hd j (by omega) σ
theorem deep_map {n k : Nat} {l : List V} (h : ∀ x ∈ l, deep n k x) {j : Nat} (hj : k ≤ j) (σ : List O) : l.map (frz j n σ) = l := by
 have : l.map (frz j n σ) = l.map id := List.map_congr_left (fun x hx => h x hx j hj σ)
 rw [this, List.map_id]
theorem frz_lt {n : Nat} {v : V} (h : Lt n v) : ∃ k0, deep n k0 v := by
 have pure : ∀ {v : V}, v.pure = true → ∃ k0, deep n k0 v := fun hp => ⟨1, fun k hk σ => by
  obtain ⟨k, rfl⟩ : ∃ j, k = j + 1 := ⟨k - 1, by omega⟩
  unfold frz; rw [if_pos hp]⟩
 induction h with
 | u => exact ⟨0, fun k _ σ => frz_u⟩
 | b x => exact pure rfl
 | i k x => exact pure rfl
 | str s => exact pure rfl
 | np => exact pure rfl
 | p id ver off h => exact ⟨1, fun k hk σ => by
   obtain ⟨k, rfl⟩ : ∃ j, k = j + 1 := ⟨k - 1, by omega⟩
   simp [frz, V.pure, h]⟩
 | sp cells off h ih =>
  obtain ⟨k0, hk0⟩ := map_deep (deep_mono (n := n)) ih
  refine ⟨k0 + 1, fun k hk σ => ?_⟩
  obtain ⟨k, rfl⟩ : ∃ j, k = j + 1 := ⟨k - 1, by omega⟩
  rw [frz]
  split
  ·rfl
  ·rw [deep_map hk0 (by omega)]
 | s id ver off len es h => exact ⟨1, fun k hk σ => by
   obtain ⟨k, rfl⟩ : ∃ j, k = j + 1 := ⟨k - 1, by omega⟩
   simp [frz, V.pure, h]⟩
 | ss cells len full h ih =>
  obtain ⟨k0, hk0⟩ := map_deep (deep_mono (n := n)) ih
  refine ⟨k0 + 1, fun k hk σ => ?_⟩
  obtain ⟨k, rfl⟩ : ∃ j, k = j + 1 := ⟨k - 1, by omega⟩
  rw [frz]
  split
  ·rfl
  ·rw [deep_map hk0 (by omega)]
 | nm => exact pure rfl
 | m id h => exact ⟨1, fun k hk σ => by
   obtain ⟨k, rfl⟩ : ∃ j, k = j + 1 := ⟨k - 1, by omega⟩
   simp [frz, V.pure, h]⟩
 | sm es h h' ih ih' =>
  obtain ⟨k0, hk0⟩ := map_deep (deep_mono (n := n)) (l := es.map (·.1)) (fun x hx => by
   obtain ⟨e, he, rfl⟩ := List.mem_map.1 hx
   exact ih e he)
  obtain ⟨k1, hk1⟩ := map_deep (deep_mono (n := n)) (l := es.map (·.2)) (fun x hx => by
   obtain ⟨e, he, rfl⟩ := List.mem_map.1 hx
   exact ih' e he)
  refine ⟨max k0 k1 + 1, fun k hk σ => ?_⟩
  obtain ⟨k, rfl⟩ : ∃ j, k = j + 1 := ⟨k - 1, by omega⟩
  rw [frz]
  split
  ·rfl
  ·have : es.map (fun e => (frz k n σ e.1, frz k n σ e.2)) = es.map id := List.map_congr_left (fun e he => by
    rw [hk0 e.1 (List.mem_map_of_mem he) k (by omega) σ, hk1 e.2 (List.mem_map_of_mem he) k (by omega) σ]; rfl)
   rw [this, List.map_id]
 | nf => exact pure rfl
 | f fn a b h h' ih ih' =>
  obtain ⟨k0, hk0⟩ := map_deep (deep_mono (n := n)) ih
  obtain ⟨k1, hk1⟩ := map_deep (deep_mono (n := n)) ih'
  refine ⟨max k0 k1 + 1, fun k hk σ => ?_⟩
  obtain ⟨k, rfl⟩ : ∃ j, k = j + 1 := ⟨k - 1, by omega⟩
  rw [frz]
  split
  ·rfl
  ·rw [deep_map hk0 (by omega), deep_map hk1 (by omega)]
 | agg cells h ih =>
  obtain ⟨k0, hk0⟩ := map_deep (deep_mono (n := n)) ih
  refine ⟨k0 + 1, fun k hk σ => ?_⟩
  obtain ⟨k, rfl⟩ : ∃ j, k = j + 1 := ⟨k - 1, by omega⟩
  rw [frz]
  split
  ·rfl
  ·rw [deep_map hk0 (by omega)]
 | tup vs h ih =>
  obtain ⟨k0, hk0⟩ := map_deep (deep_mono (n := n)) ih
  refine ⟨k0 + 1, fun k hk σ => ?_⟩
  obtain ⟨k, rfl⟩ : ∃ j, k = j + 1 := ⟨k - 1, by omega⟩
  rw [frz]
  split
  ·rfl
  ·rw [deep_map hk0 (by omega)]
theorem frzO_lt {n : Nat} {o : O} (h : LtO n o) : ∃ k0, ∀ k, k0 ≤ k → ∀ σ, frzO k n σ o = o := by
 cases o with
 | row v cells =>
  obtain ⟨k0, hk0⟩ := map_deep (deep_mono (n := n)) (l := cells) (fun x hx => frz_lt (h x hx))
  exact ⟨k0, fun k hk σ => by simp only [frzO]; rw [deep_map hk0 hk]⟩
 | map es c =>
  obtain ⟨k0, hk0⟩ := map_deep (deep_mono (n := n)) (l := es.map (·.2.1)) (fun x hx => by
   obtain ⟨e, he, rfl⟩ := List.mem_map.1 hx
   exact frz_lt (h e he).1)
  obtain ⟨k1, hk1⟩ := map_deep (deep_mono (n := n)) (l := es.map (·.2.2)) (fun x hx => by
   obtain ⟨e, he, rfl⟩ := List.mem_map.1 hx
   exact frz_lt (h e he).2)
  refine ⟨max k0 k1, fun k hk σ => ?_⟩
  simp only [frzO]
  have : es.map (fun e => (e.1, frz k n σ e.2.1, frz k n σ e.2.2)) = es.map id := List.map_congr_left (fun e he => by
   rw [hk0 e.2.1 (List.mem_map.2 ⟨e, he, rfl⟩) k (by omega) σ, hk1 e.2.2 (List.mem_map.2 ⟨e, he, rfl⟩) k (by omega) σ]; rfl)
  rw [this, List.map_id]
 | it mid since seen stepped => exact ⟨0, fun k _ σ => by simp only [frzO]; rw [if_pos (show mid < n from h)]⟩
 | dead v => exact ⟨0, fun k _ σ => rfl⟩
theorem frzL_lt {n : Nat} : ∀ {l : List O}, (∀ o ∈ l, LtO n o) → ∃ k0, ∀ k, k0 ≤ k → ∀ σ, l.map (frzO k n σ) = l
 | [], _ => ⟨0, by simp⟩
 | o :: l, h => by
  obtain ⟨a, ha⟩ := frzO_lt (h o (List.mem_cons_self ..))
  obtain ⟨b, hb⟩ := frzL_lt (l := l) (fun o' ho' => h o' (List.mem_cons_of_mem _ ho'))
  exact ⟨max a b, fun k hk σ => by rw [List.map_cons, ha k (by omega), hb k (by omega)]⟩
theorem LtAll.cut {σ : List O} (h : LtAll σ) : ∃ k0, ∀ k, k0 ≤ k → ∀ g : List O, frzS k σ.length (σ ++ g) = σ := by
 obtain ⟨k0, hk0⟩ := frzL_lt h
 exact ⟨k0, fun k hk g => by rw [frzS, List.take_left]; exact hk0 k hk _⟩
inductive IS where
 | op (dst : Option Nat) (g : Option (Nat × Bool)) (io : IOp)
 | call (dst : Option Nat) (g : Option (Nat × Bool)) (f : FuncId) (args : List Od)
 | callv (dst : Option Nat) (g : Option (Nat × Bool)) (x : Od) (args : List Od)
 | cally (dst : Option Nat) (g : Option (Nat × Bool)) (f : FuncId) (args : List Od)
 | callr (dst : Option Nat) (g : Option (Nat × Bool)) (f : FuncId) (args : List Od)
 deriving Inhabited
inductive IC where
 | skip
 | reg (ops : List IS) (live : Option (List Nat))
 | drw (ops : List (IS × List Nat)) (live : Option (List Nat))
 | alt (ls : List (List (IS × List Nat))) (live : Option (List Nat))
 | seq (a b : IC)
 | cond (c : Od) (a b : IC)
 | block (id : Nat) (a : IC)
 | loop (live : Option (List Nat)) (a : IC)
 | rfn (g : Od) (ps : List Nat) (asg body : IC)
 | exit (id : Nat)
 | ret
 deriving Inhabited
def IC.erase : IC → IC
 | .skip => .skip
 | .reg ops _ => .reg ops none
 | .drw ops _ => .drw ops none
 | .alt ls _ => .alt ls none
 | .seq a b => .seq a.erase b.erase
 | .cond c a b => .cond c a.erase b.erase
 | .block id a => .block id a.erase
 | .loop _ a => .loop none a.erase
 | .rfn g ps a b => .rfn g ps a.erase b.erase
 | .exit id => .exit id
 | .ret => .ret
def FSpec (P : Program) (f : FuncId) (args : List V) (σ : List O) (v : V) (σ' : List O) : Prop :=
 (∃ fn, P.funcs[f]? = some fn ∧ fn.name ≠ "runtime.NumGoroutine" ∧ fn.body.isSome = true) ∧
 ∀ (C : Cx) (cargs : List Value), R C σ → VRl C args cargs → CallsIn Fence.wide 0 P f cargs.toArray C.w (fun e w' => ∃ C' cv, C'.w = w' ∧ e = .returned cv ∧ R C' σ' ∧ Ext C C' ∧ VR C' v cv)
abbrev Md := Option Nat
abbrev Kt := Md → Env → List O → Prop
abbrev Yield := Nat → List V → List O → (Md → V → List O → Prop) → Prop
def noY : Yield := fun _ _ _ _ => False
structure InvOK (n0 : Nat) (Inv : Md → Cx → List Deferred → Prop) : Prop where
 ext : ∀ {md C C' D}, Inv md C D → Wf C → Ext C C' → Inv md C' D
 trunc : ∀ {md C D n}, Inv md C D → Wf C → n0 ≤ n → Inv md (C.trunc n) D
 le : ∀ {md C D}, Inv md C D → n0 ≤ C.vs.length
def YOK (P : Program) (F : Fence) (Inv : Md → Cx → List Deferred → Prop) (Y : Yield) : Prop :=
 ∀ (l : Nat) (args : List V) (σ : List O) (Kont : Md → V → List O → Prop) (C : Cx) (D : List Deferred) (cargs : List Value), Inv none C D → R C σ → VRl C args cargs → Y l args σ Kont →
  ∃ fn tmps asg body w', (Instr.yield l cargs.toArray).run P C.w = .ok (.round l fn tmps asg body) w' ∧
   RoundIn F 0 P l fn tmps asg body w' (fun e w'' => ∃ md' C' b σ', C'.w = w'' ∧ e = .returned (.bool b) ∧ R C' σ' ∧ (∀ v c, VR C v c → VR C' v c) ∧ Inv md' C' D ∧ Kont md' (.b b) σ')
def YS (P : Program) (f : FuncId) (args : List V) (s1 g : List O) (n0 l N : Nat) (X : Nat → List V → List O → List O → Prop) (Pre : List O → Prop) : Prop :=
 (∃ fn, P.funcs[f]? = some fn ∧ fn.name ≠ "runtime.NumGoroutine" ∧ fn.body.isSome = true) ∧
 ∀ (Inv : Md → Cx → List Deferred → Prop) (Y : Yield) (J Dn : Nat → List O → Prop) (C : Cx) (cargs : List Value), InvOK n0 Inv → YOK P Fence.wide Inv Y → R C (s1 ++ g) → Inv none C [] → J 0 s1 → (∀ i σ, J i σ → Pre σ) →
  VRl C args cargs →
  (∀ i x σ' g' (Kont : Md → V → List O → Prop), i < N → X i x σ' g' → J i σ' → (∀ σ'', J (i + 1) σ'' → Kont none (.b true) σ'') → (∀ j σ'', Dn j σ'' → Kont (some j) (.b false) σ'') → Y l x (σ' ++ g') Kont) →
  CallsIn Fence.wide 0 P f cargs.toArray C.w (fun e w' => ∃ C' b md σ', C'.w = w' ∧ e = .returned (.bool b) ∧ R C' σ' ∧ (∀ v c, v.pure = true → VR C v c → VR C' v c) ∧ Inv md C' [] ∧
   (match md with | none => b = true ∧ J N σ' | some j => b = false ∧ Dn j σ'))
def purE (env : Env) : Env := env.map fun p => (p.1, if p.2.pure then p.2 else .u)
def guarded (g : Option (Nat × Bool)) (md : Md) (env : Env) (σ : List O) (run : Prop) (dst : Option Nat) (K : Kt) : Prop :=
 match g with
 | none => run
 | some (t, want) => match get env t with
  | .b b => if b = want then run else K md (put env dst (.tup [])) σ
  | .tup [] => K md (put env dst (.tup [])) σ
  | _ => False
def kput (md : Md) (env : Env) (dst : Option Nat) (K : Kt) (v : V) (σ' : List O) : Prop := K md (put env dst v) σ'
def yput (n0 : Nat) (env : Env) (dst : Option Nat) (K : Kt) (md : Md) (v : V) (σ' : List O) : Prop := LtAll σ' → n0 ≤ σ'.length → K md (put env dst v) σ'
def callK (P : Program) (f : FuncId) (args : List V) (σ : List O) (K : V → List O → Prop) : Prop := ∃ v σ', FSpec P f args σ v σ' ∧ K v σ'
def FSpecQ (P : Program) (f : FuncId) (args : List V) (σ : List O) (Q : V → List O → Prop) : Prop :=
 (∃ fn, P.funcs[f]? = some fn ∧ fn.name ≠ "runtime.NumGoroutine" ∧ fn.body.isSome = true) ∧
 ∀ (C : Cx) (cargs : List Value), R C σ → VRl C args cargs → CallsIn Fence.wide 0 P f cargs.toArray C.w (fun e w' => ∃ C' cv v σ', Q v σ' ∧ C'.w = w' ∧ e = .returned cv ∧ R C' σ' ∧ Ext C C' ∧ VR C' v cv)
theorem FSpec.toQ {P : Program} {f : FuncId} {args : List V} {v : V} {σ σ' : List O} (h : FSpec P f args σ v σ') : FSpecQ P f args σ (fun v' σ'' => v' = v ∧ σ'' = σ') :=
 ⟨h.1, fun C cargs hR ha => (h.2 C cargs hR ha).mono fun e w' ⟨C', cv, h1⟩ => ⟨C', cv, v, σ', ⟨rfl, rfl⟩, h1⟩⟩
def callR (P : Program) (f : FuncId) (args : List V) (σ : List O) (K : V → List O → Prop) : Prop := ∃ Q, FSpecQ P f args σ Q ∧ ∀ v σ', Q v σ' → K v σ'
def callvK (P : Program) (Y : Yield) (n0 : Nat) (x : V) (md : Md) (env : Env) (args : List V) (σ : List O) (dst : Option Nat) (K : Kt) : Prop :=
 match x with
 | .f (.func f) first cap => callK P f (first ++ args ++ cap) σ (kput md env dst K)
 | .f (.yield l) [] [] => md = none ∧ ∃ k n, n0 ≤ n ∧ n ≤ σ.length ∧ Y l (args.map (frz k n σ)) (frzS k n σ) (yput n0 (frzE k n σ env) dst K)
 | _ => False
def callYK (P : Program) (Y : Yield) (n0 : Nat) (f : FuncId) (md : Md) (env : Env) (args : List V) (σ : List O) (dst : Option Nat) (K : Kt) : Prop :=
 Y ≠ noY ∧ md = none ∧ ∃ (s1 g : List O) (l N : Nat) (X : Nat → List V → List O → List O → Prop) (Pre : List O → Prop) (J Dn : Nat → List O → Prop), σ = s1 ++ g ∧ YS P f args s1 g n0 l N X Pre ∧ (∀ i σ, J i σ → Pre σ) ∧ J 0 s1 ∧
  (∀ i x σ' g' (Kont : Md → V → List O → Prop), i < N → X i x σ' g' → J i σ' → (∀ σ'', J (i + 1) σ'' → Kont none (.b true) σ'') → (∀ j σ'', Dn j σ'' → Kont (some j) (.b false) σ'') → Y l x (σ' ++ g') Kont) ∧
  (∀ σ', J N σ' → yput n0 (purE env) dst K none (.b true) σ') ∧ ∀ j σ', Dn j σ' → yput n0 (purE env) dst K (some j) (.b false) σ'
def abS (P : Program) (Y : Yield) (n0 : Nat) : IS → Kt → Kt
 | .op dst g io, K, md, env, σ => guarded g md env σ (evK (Od.ev (get env)) σ (kput md env dst K) io) dst K
 | .call dst g f args, K, md, env, σ => guarded g md env σ (callK P f (args.map (Od.ev (get env))) σ (kput md env dst K)) dst K
 | .callv dst g x args, K, md, env, σ => guarded g md env σ (callvK P Y n0 (x.ev (get env)) md env (args.map (Od.ev (get env))) σ dst K) dst K
 | .cally dst g f args, K, md, env, σ => guarded g md env σ (callYK P Y n0 f md env (args.map (Od.ev (get env))) σ dst K) dst K
 | .callr dst g f args, K, md, env, σ => guarded g md env σ (callR P f (args.map (Od.ev (get env))) σ (kput md env dst K)) dst K
def abSs (P : Program) (Y : Yield) (n0 : Nat) : List IS → Kt → Kt
 | [], K, md, env, σ => K md env σ
 | s :: r, K, md, env, σ => abS P Y n0 s (abSs P Y n0 r K) md env σ
def keepK (live : Option (List Nat)) (K : Kt) (md : Md) (env : Env) (σ : List O) : Prop := K md (keepO env live) σ
def IOp.ods : IOp → List Od
 | .mov x => [x]
 | .pick c a b => [c, a, b]
 | .alloc _ => []
 | .box x => [x]
 | .build _ ps => ps.map (·.2.2)
 | .bsl _ _ _ _ ps => ps.map (·.2.2)
 | .load1 a => [a]
 | .loadA _ a => [a]
 | .store1 a x => [a, x]
 | .storeA _ a x => [a, x]
 | .nilc x => [x]
 | .bin _ x y => [x, y]
 | .eqv _ _ _ x y => [x, y]
 | .eqb _ x y => [x, y]
 | .not x => [x]
 | .neg x => [x]
 | .com x => [x]
 | .conv _ x => [x]
 | .mkf _ a b => a ++ b
 | .mkmap => []
 | .mksl _ _ _ l c => [l, c]
 | .slc _ x lo hi m => x :: (lo.toList ++ hi.toList ++ m.toList)
 | .sla _ _ x => [x]
 | .fad _ x => [x]
 | .fld1 _ x => [x]
 | .fldA _ _ x => [x]
 | .ixa _ _ x i => [x, i]
 | .ixs _ x i => [x, i]
 | .ixv _ _ x i => [x, i]
 | .ext _ x => [x]
 | .len x => [x]
 | .lenm x => [x]
 | .lens x => [x]
 | .app _ _ x y => [x, y]
 | .clr _ _ x => [x]
 | .cpy _ d s => [d, s]
 | .mx xs => xs
 | .mn xs => xs
 | .lkp _ _ _ _ x k => [x, k]
 | .mset _ _ x k v => [x, k, v]
 | .sidx x i => [x, i]
 | .snil _ x => [x]
 | .ment _ _ _ x k => [x, k]
 | .mest x s v => [x, s, v]
 | .mdel _ _ x k => [x, k]
 | .rng x => [x]
 | .nxt x => [x]
 | .ent x => [x]
 | .call _ xs => xs
 | .callv x xs => x :: xs
def Od.tmp? : Od → Option Nat
 | .t n => some n
 | _ => none
def IS.dst : IS → Option Nat
 | .op d _ _ => d
 | .call d _ _ _ => d
 | .callv d _ _ _ => d
 | .cally d _ _ _ => d
 | .callr d _ _ _ => d
def IS.g : IS → Option (Nat × Bool)
 | .op _ g _ => g
 | .call _ g _ _ => g
 | .callv _ g _ _ => g
 | .cally _ g _ _ => g
 | .callr _ g _ _ => g
def IS.ods : IS → List Od
 | .op _ _ io => io.ods
 | .call _ _ _ xs => xs
 | .callv _ _ x xs => x :: xs
 | .cally _ _ _ xs => xs
 | .callr _ _ _ xs => xs
def IS.reads (s : IS) : List Nat := (s.g.map (·.1)).toList ++ s.ods.filterMap Od.tmp?
def IOp.loud : IOp → Bool
 | .alloc _ => true
 | .box _ => true
 | .bsl f _ _ _ _ => !f
 | .store1 _ _ => true
 | .storeA _ _ _ => true
 | .mkmap => true
 | .mksl _ _ _ _ _ => true
 | .app _ _ _ _ => true
 | .clr _ _ _ => true
 | .cpy _ _ _ => true
 | .mset _ _ _ _ _ => true
 | .ment _ _ _ _ _ => true
 | .mest _ _ _ => true
 | .mdel _ _ _ _ => true
 | .rng _ => true
 | .nxt _ => true
 | _ => false
def IS.loud : IS → Bool
 | .op _ _ io => io.loud
 | .call _ _ _ _ => false
 | .callv _ _ _ _ => true
 | .cally _ _ _ _ => true
 | .callr _ _ _ _ => true
def IS.calm : IS → Bool
 | .op _ _ (.nxt _) => false
 | .cally _ _ _ _ => false
 | .callr _ _ _ _ => false
 | _ => true
def recheck (P : Program) (Y : Yield) (n0 : Nat) (j : Nat) : List (IS × Env × V × List Nat) → Md → List O → Prop
 | [], _, _ => True
 | (s, env, v, us) :: r, md, σ => (if us.contains j then abS P Y n0 s (fun md' env' σ' => md' = md ∧ env' = put env s.dst v ∧ σ' = σ) md env σ else True) ∧ recheck P Y n0 j r md σ
def abDs (P : Program) (Y : Yield) (n0 : Nat) : List (IS × List Nat) → Nat → List (IS × Env × V × List Nat) → Kt → Kt
 | [], _, _, K, md, env, σ => K md env σ
 | (s, us) :: r, j, pend, K, md, env, σ =>
  abS P Y n0 s (fun md' env' σ' => md' = md ∧ (s.loud = false → σ' = σ) ∧ recheck P Y n0 j pend md σ' ∧
   abDs P Y n0 r (j + 1) (if us.isEmpty then pend else (s, env, (match s.dst with | some d => get env' d | none => .u), us) :: pend) K md' env' σ') md env σ
def againK (n0 : Nat) (live : Option (List Nat)) (I : Nat → Env → List O → Prop) (m : Nat) (md : Md) (md' : Md) (env : Env) (σ : List O) : Prop :=
 md' = md ∧ ∃ m', m' < m ∧ (I m' (keepO env live) σ ∨ ∃ k n, n0 ≤ n ∧ n ≤ σ.length ∧ I m' (keepO (frzE k n σ env) live) (frzS k n σ))
def exitK : List (Nat × Kt) → Nat → Kt
 | [], _, _, _, _ => False
 | (i, K) :: r, id, md, env, σ => if i = id then K md env σ else exitK r id md env σ
def roundK (n0 : Nat) (J : List O → Prop) (md : Md) (md' : Md) (_ : Env) (σ : List O) : Prop := md' = md ∧ (J σ ∨ ∃ k n, n0 ≤ n ∧ n ≤ σ.length ∧ J (frzS k n σ))
def constK (env : Env) (K : Kt) (md : Md) (_ : Env) (σ : List O) : Prop := K md env σ
def constE (env : Env) : List (Nat × Kt) → List (Nat × Kt)
 | [] => []
 | (i, K) :: r => (i, constK env K) :: constE env r
abbrev ItTy := FuncId → List V → List V → Nat → (Nat → List V → List O → List O → Prop) → (List O → Prop) → Prop
def ab (P : Program) (Y : Yield) (It : ItTy) (n0 : Nat) : IC → (K : Kt) → (E : List (Nat × Kt)) → (Rt : Kt) → Kt
 | .skip, K, _, _, md, env, σ => K md env σ
 | .reg ops live, K, _, _, md, env, σ => abSs P Y n0 ops (keepK live K) md env σ
 | .drw ops live, K, _, _, md, env, σ => abDs P noY n0 ops 0 [] (keepK live K) md env σ
 | .alt ls live, K, _, _, md, env, σ => ∀ l ∈ ls, abDs P noY n0 l 0 [] (keepK live K) md env σ
 | .seq a b, K, E, Rt, md, env, σ => ab P Y It n0 a (ab P Y It n0 b K E Rt) E Rt md env σ
 | .cond c a b, K, E, Rt, md, env, σ => match c.ev (get env) with
  | .b t => if t = true then ab P Y It n0 a K E Rt md env σ else ab P Y It n0 b K E Rt md env σ
  | _ => False
 | .block id a, K, E, Rt, md, env, σ => ab P Y It n0 a K ((id, K) :: E) Rt md env σ
 | .loop live a, K, E, Rt, md, env, σ => ∃ I : Nat → Env → List O → Prop, ((∃ m, I m (keepO env live) σ) ∨ ∃ m k n, n0 ≤ n ∧ n ≤ σ.length ∧ I m (keepO (frzE k n σ env) live) (frzS k n σ)) ∧ ∀ m env σ, I m env σ → ab P Y It n0 a (againK n0 live I m md) E Rt md env σ
 | .rfn g ps asg body, K, E, Rt, md, env, σ => match g.ev (get env) with
  | .f (.func f) first cap => ∃ N X Pre, It f first cap N X Pre ∧ ∃ J : Nat → List O → Prop, (∀ i σ, J i σ → Pre σ) ∧ J 0 σ ∧
    (∀ i x σ' g, i < N → X i x σ' g → J i σ' → x.length = ps.length ∧ ab P noY It (σ' ++ g).length asg (ab P noY It (σ' ++ g).length body (roundK (σ' ++ g).length (J (i + 1)) md) (constE env E) (constK env Rt)) [] (fun _ _ _ => False) md (puts env ps x) (σ' ++ g)) ∧
    ∀ σ', J N σ' → K md env σ'
  | _ => False
 | .exit id, _, E, _, md, env, σ => exitK E id md env σ
 | .ret, _, _, Rt, md, env, σ => Rt md env σ
def trG (ops : Array Oper) (g : Option (Nat × Bool)) : Option (Option (Nat × Bool)) :=
 match g with
 | none => some none
 | some (j, want) => match (ops[j]?).bind (·.dst) with
  | some t => some (some (t, want))
  | none => none
def dstOK (N : Nat) : Option Nat → Bool
 | none => true
 | some d => decide (d < N)
def yEx (ex : List Nat) : Option Nat → Bool
 | some d => ex.contains d
 | none => false
def lEx (ex : List Nat) (f : FuncId) : Bool := ex.contains (1000 + f)
def rEx (ex : List Nat) (f : FuncId) : Bool := ex.contains (2000 + f)
def trS (P : Program) (N : Nat) (ex : List Nat) (ops : Array Oper) (o : Oper) : Option IS :=
 match dstOK N o.dst, trG ops o.guard, trOp P (match o.dst with | some d => !ex.contains d | none => true) o with
 | true, some g, some (.call f args) => if yEx ex o.dst = true then some (.cally o.dst g f args) else if rEx ex f = true then some (.callr o.dst g f args) else if lEx ex f = true then some (.callv o.dst g (.fn f) args) else some (.call o.dst g f args)
 | true, some g, some (.callv x args) => some (.callv o.dst g x args)
 | true, some g, some io => some (.op o.dst g io)
 | _, _, _ => none
def trSs (P : Program) (N : Nat) (ex : List Nat) (ops : Array Oper) : List Oper → Option (List IS)
 | [] => some []
 | o :: r => match trS P N ex ops o, trSs P N ex ops r with
  | some s, some ss => some (s :: ss)
  | _, _ => none
def trEdges (o : Oper) : List Nat := (o.after.toList.filter (Region.binds .any ·)).map (·.on)
def befores : List (List Nat) → List Nat → List Nat
 | [], acc => acc
 | es :: r, acc => befores r (acc ++ [es.foldl (fun m e => m ||| (1 <<< e) ||| acc.getD e 0) 0])
def bit (m i : Nat) : Bool := Nat.testBit m i
def tied (bs : List Nat) (i j : Nat) : Bool := bit (bs.getD i 0) j || bit (bs.getD j 0) i
def usOf (ss : List IS) (bs : List Nat) (i : Nat) : List Nat :=
 (List.range ss.length).filter fun j => decide (i < j) && ((ss[j]?).map IS.loud).getD false && !bit (bs.getD j 0) i
def drawOK (es : List (List Nat)) (ss : List IS) (bs : List Nat) : Bool :=
 (List.range ss.length).all fun i =>
  match ss[i]? with
  | none => false
  | some s => s.calm && (es.getD i []).all (· < i) &&
   (List.range ss.length).all fun j => i == j ||
    match ss[j]? with
    | none => false
    | some s' =>
     (match s'.dst with
      | some d => !(s.reads.contains d || s.dst == some d) || tied bs i j
      | none => true) &&
     (!s'.loud || (if s.loud then tied bs i j else (decide (i < j) || tied bs i j)))
def permOp (ops : Array Oper) (tx pi : List Nat) (i : Nat) : Oper :=
 match ops[i]? with
 | none => default
 | some o => { o with after := ((trEdges o ++ (if pi.contains i then pi.takeWhile (· != i) else [])).map fun e => (⟨tx.idxOf e, .data⟩ : Edge)).toArray, guard := o.guard.map fun g => (tx.idxOf g.1, g.2) }
def permOps (ops : Array Oper) (tx pi : List Nat) : Array Oper := (tx.map (permOp ops tx pi)).toArray
def greedy (es : List (List Nat)) : Nat → List Nat → List Nat → List Nat → List Nat
 | 0, _, _, done => done
 | k + 1, qs, pi, done => match qs.find? (fun i => (es.getD i []).all done.contains) with
  | some i => greedy es k (qs.erase i) pi (done ++ [i])
  | none => match pi with
   | [] => done
   | p :: pi => greedy es k qs pi (done ++ [p])
def perms : Nat → List Nat → List (List Nat)
 | 0, _ => [[]]
 | n + 1, l => match l with
  | [] => [[]]
  | x :: r => (x :: r).flatMap fun y => (perms n ((x :: r).erase y)).map (y :: ·)
def ordOK (bs : List Nat) : List Nat → Bool
 | [] => true
 | x :: r => r.all (fun y => !bit (bs.getD x 0) y) && ordOK bs r
def isLoud (ss : List IS) (i : Nat) : Bool := ((ss[i]?).map IS.loud).getD false
def txOK (n : Nat) (tx : List Nat) : Bool :=
 tx.length == n && (List.range n).all (fun i => tx.contains i) && (List.range n).all (fun k => tx.idxOf (tx.getD k 0) == k && decide (tx.getD k 0 < n))
def altOf (P : Program) (N : Nat) (ex : List Nat) (ops : Array Oper) (tx pi : List Nat) : Option (List (IS × List Nat)) :=
 if txOK ops.size tx = true then
  match trSs P N ex (permOps ops tx pi) (permOps ops tx pi).toList with
  | some ss =>
   (let es := (permOps ops tx pi).toList.map trEdges
    let bs := befores es []
    if drawOK es ss bs = true then some (ss.zip ((List.range ss.length).map (usOf ss bs))) else none)
  | none => none
 else none
def allSome {α : Type} : List (Option α) → Option (List α)
 | [] => some []
 | some x :: r => match allSome r with
  | some l => some (x :: l)
  | none => none
 | none :: _ => none
def backOK (es : List (List Nat)) : Bool := (List.range es.length).all fun i => (es.getD i []).all fun e => decide (e < i)
def altsOf (P : Program) (N : Nat) (ex : List Nat) (ops : Array Oper) (ss : List IS) (es : List (List Nat)) (bs : List Nat) : Option (List (List (IS × List Nat))) :=
 if backOK es = true then
  (let louds := (List.range ss.length).filter (isLoud ss)
   let quiets := (List.range ss.length).filter fun i => !isLoud ss i
   allSome (((perms louds.length louds).filter (ordOK bs)).map fun pi => altOf P N ex ops (greedy es ops.size quiets pi []) pi))
 else none
def trC (P : Program) (N : Nat) (ex : List Nat) : Code → Option IC
 | .skip => some .skip
 | .label _ => some .skip
 | .region _ ops draw => match trSs P N ex ops ops.toList with
  | some ss => if draw then
    (let es := ops.toList.map trEdges
     let bs := befores es []
     if drawOK es ss bs then some (.drw (ss.zip ((List.range ss.length).map (usOf ss bs))) none) else (altsOf P N ex ops ss es bs).map fun ls => .alt ls none)
   else some (.reg ss none)
  | none => none
 | .seq a b => match trC P N ex a, trC P N ex b with
  | some x, some y => some (.seq x y)
  | _, _ => none
 | .cond c a b => match trX c, trC P N ex a, trC P N ex b with
  | some c, some x, some y => some (.cond c x y)
  | _, _, _ => none
 | .block id a => (trC P N ex a).map (.block id)
 | .loop a => (trC P N ex a).map (.loop none)
 | .rangeFunc g ps asg body => match trX g, trC P N ex asg, trC P N ex body with
  | some g, some x, some y => if ps.toList.all (fun p => decide (p < N)) then some (.rfn g ps.toList x y) else none
  | _, _, _ => none
 | .exit id => some (.exit id)
 | .scope a => trC P N ex a
 | .ret => some .ret
 | _ => none
end Go.Ab
end
section
namespace Go.Ab
open Go
def FOK (F : Fence) : Prop := F = Fence.wide ∨ ∃ l, F = Fence.wide.inRound l
theorem FOK.fn {F : Fence} (h : FOK F) (f : FuncId) : F.fn f := by
 rcases h with rfl | ⟨l, rfl⟩ <;> trivial
theorem FOK.depth {F : Fence} (h : FOK F) : F.depth = none := by
 rcases h with rfl | ⟨l, rfl⟩ <;> rfl
theorem FOK.calls {F : Fence} (h : FOK F) {P : Program} {f : FuncId} {args : Array Value} {w : World} {Rr : Ending → World → Prop} (hc : CallsIn Fence.wide 0 P f args w Rr) : CallsIn F 0 P f args w Rr := by
 rcases h with rfl | ⟨l, rfl⟩
 ·exact hc
 ·exact hc.inRound l
theorem FOK.semAt {F : Fence} (h : FOK F) (ρ : Operand → Value) (o : Oper) (hd : ∀ c, o.op ≠ .defer c) : Oper.semAt F.round ρ o = execOp ρ o := by
 rcases h with rfl | ⟨l, rfl⟩
 ·exact Oper.semAt_none ρ o
 ·exact Oper.semAt_some l ρ o hd
theorem FOK.inRound {F : Fence} (h : FOK F) (l : Nat) : FOK (F.inRound l) := by
 rcases h with rfl | ⟨l', rfl⟩
 ·exact .inr ⟨l, rfl⟩
 ·exact .inr ⟨l, rfl⟩
theorem noY_ok {P : Program} {F : Fence} {Inv : Md → Cx → List Deferred → Prop} : YOK P F Inv noY := fun _ _ _ _ _ _ _ _ _ _ h => h.elim
def Lift (Inv : Md → Cx → List Deferred → Prop) (N : Nat) (K : Kt) (a : Act) (w : World) : Prop :=
 ∃ C md env σ, C.w = w ∧ R C σ ∧ Inv md C a.defers ∧ N ≤ a.tmps.size ∧ (∀ t, VR C (get env t) (a.tmps.getD t undef)) ∧ K md env σ
theorem Lift.mono {Inv : Md → Cx → List Deferred → Prop} {N : Nat} {K K' : Kt} {a : Act} {w : World} (h : Lift Inv N K a w) (hk : ∀ md env σ, K md env σ → K' md env σ) : Lift Inv N K' a w := by
 obtain ⟨C, md, env, σ, h1, h2, h3, h4, h5, h6⟩ := h
 exact ⟨C, md, env, σ, h1, h2, h3, h4, h5, hk _ _ _ h6⟩
section
variable {P : Program} {F : Fence} {n0 N : Nat} {Inv : Md → Cx → List Deferred → Prop} {Y : Yield}
theorem env_put {C : Cx} {env : Env} {a : Act} {dst : Option Nat} {v : V} {cv : Value} (he : ∀ t, VR C (get env t) (a.tmps.getD t undef)) (hN : N ≤ a.tmps.size) (hd : dstOK N dst = true) (hv : VR C v cv) :
  ∀ t, VR C (get (put env dst v) t) ((a.put dst cv).tmps.getD t undef) := by
 intro t
 cases dst with
 | none => exact he t
 | some d =>
  simp only [dstOK, decide_eq_true_eq] at hd
  rw [get_put]
  show VR C _ ((a.tmps.setIfInBounds d cv).getD t undef)
  split
  ·rename_i hE; subst hE
   have : (a.tmps.setIfInBounds d cv).getD d undef = cv := by
    have hlt : d < a.tmps.size := by omega
    simp [Array.getD, hlt]
   rw [this]; exact hv
  ·rename_i hE
   have : (a.tmps.setIfInBounds d cv).getD t undef = a.tmps.getD t undef := by
    simp only [Array.getD_eq_getD_getElem?]
    rw [Array.getElem?_setIfInBounds_ne (by omega)]
   rw [this]; exact he t
theorem size_put {a : Act} {dst : Option Nat} {cv : Value} : (a.put dst cv).tmps.size = a.tmps.size := by
 cases dst <;> simp [Act.put]
theorem defers_put {a : Act} {dst : Option Nat} {cv : Value} : (a.put dst cv).defers = a.defers := by
 cases dst <;> rfl
theorem env_keep {C : Cx} {env : Env} {a : Act} (he : ∀ t, VR C (get env t) (a.tmps.getD t undef)) (live : Option (List Nat)) : ∀ t, VR C (get (keepO env live) t) (a.tmps.getD t undef) := by
 intro t
 cases live with
 | none => exact he t
 | some l =>
  simp only [keepO, get_keep]
  split
  ·exact he t
  ·exact .u _
theorem env_frz {C : Cx} {σ : List O} (h : R C σ) {env : Env} {a : Act} (he : ∀ t, VR C (get env t) (a.tmps.getD t undef)) (k n : Nat) : ∀ t, VR (C.trunc n) (get (frzE k n σ env) t) (a.tmps.getD t undef) := by
 intro t
 rcases get_frzE (k := k) (n := n) (σ := σ) (e := env) (t := t) with h1 | h1
 ·rw [h1]; exact .u _
 ·rw [h1]; exact frz_sound h k (he t)
theorem trOp_not_defer {frz : Bool} {o : Oper} {io : IOp} (h : trOp P frz o = some io) : ∀ c, o.op ≠ .defer c := by
 intro c hc
 simp [trOp, hc] at h
theorem guard_sound {ops : Array Oper} {o : Oper} {g : Option (Nat × Bool)} (hg : trG ops o.guard = some g) {C : Cx} {env : Env} {a : Act} (he : ∀ t, VR C (get env t) (a.tmps.getD t undef))
  {md : Md} {σ : List O} {run : Prop} {dst : Option Nat} {K : Kt} (hk : guarded g md env σ run dst K) :
  (Region.wanted o (yielded ops a.tmps) = true ∧ run) ∨ (Region.wanted o (yielded ops a.tmps) = false ∧ K md (put env dst (.tup [])) σ) := by
 cases hog : o.guard with
 | none =>
  rw [hog] at hg
  cases hg
  exact .inl ⟨by simp [Region.wanted, hog], hk⟩
 | some jw =>
  obtain ⟨j, want⟩ := jw
  rw [hog] at hg
  simp only [trG] at hg
  split at hg
  ·rename_i t ht
   cases hg
   simp only [guarded] at hk
   split at hk
   ·rename_i b hb
    have hv := he t
    rw [hb] at hv
    have hv' := bool_inv hv
    have hy : yielded ops a.tmps j = some b := by
     have h3 : a.tmps[t]? = some (.bool b) := by
      by_cases hlt : t < a.tmps.size
      ·simp only [Array.getD, hlt, dite_true] at hv'
       rw [Array.getElem?_eq_getElem hlt]
       exact congrArg some hv'
      ·simp only [Array.getD, hlt, dite_false] at hv'
       cases hv'
     simp [yielded, ht, h3]
    by_cases hbw : b = want
    ·rw [if_pos hbw] at hk
     exact .inl ⟨by simp [Region.wanted, hog, hy, hbw], hk⟩
    ·rw [if_neg hbw] at hk
     refine .inr ⟨?_, hk⟩
     simp only [Region.wanted, hog, hy]
     simpa using hbw
   ·rename_i hb
    have hv := he t
    rw [hb] at hv
    have hy : yielded ops a.tmps j = none := by
     simp only [yielded, ht, Option.bind_some]
     generalize hx : a.tmps[t]? = x
     cases x with
     | none => rfl
     | some c =>
      rw [Array.getD_eq_getD_getElem?, hx] at hv
      simp only [Option.getD_some] at hv
      cases hv with
      | tup _ cs hl _ => rfl
    exact .inr ⟨by simp [Region.wanted, hog, hy], hk⟩
   ·exact hk.elim
  ·cases hg
theorem callFunc_run {f : FuncId} {fn : Func} (hf : P.funcs[f]? = some fn) (hn : fn.name ≠ "runtime.NumGoroutine") (hb : fn.body.isSome = true) (args : Array Value) (w : World) : (callFunc f args).run P w = .ok (.enter f args) w := by
 obtain ⟨b, hb'⟩ := Option.isSome_iff_exists.1 hb
 simp [callFunc, hf, hn, hb']
theorem enter_sound {f : FuncId} {args : List V} {σ : List O} {K : V → List O → Prop} (hF : FOK F) {C : Cx} (h : R C σ) {cargs : List Value} (ha : VRl C args cargs) (hk : callK P f args σ K) :
  (callFunc f cargs.toArray).run P C.w = .ok (.enter f cargs.toArray) C.w ∧
  CallsIn F 0 P f cargs.toArray C.w (fun e w' => ∃ C' cv v σ', C'.w = w' ∧ e = .returned cv ∧ R C' σ' ∧ Ext C C' ∧ VR C' v cv ∧ K v σ') := by
 obtain ⟨v, σ', ⟨⟨fn, hf, hn, hb⟩, hs⟩, hk⟩ := hk
 refine ⟨callFunc_run hf hn hb _ _, hF.calls ((hs C cargs h ha).mono ?_)⟩
 rintro e w' ⟨C', cv, h1, h2, h3, h4, h5⟩
 exact ⟨C', cv, v, σ', h1, h2, h3, h4, h5, hk⟩
theorem enterR_sound {f : FuncId} {args : List V} {σ : List O} {K : V → List O → Prop} (hF : FOK F) {C : Cx} (h : R C σ) {cargs : List Value} (ha : VRl C args cargs) (hk : callR P f args σ K) :
  (callFunc f cargs.toArray).run P C.w = .ok (.enter f cargs.toArray) C.w ∧
  CallsIn F 0 P f cargs.toArray C.w (fun e w' => ∃ C' cv v σ', C'.w = w' ∧ e = .returned cv ∧ R C' σ' ∧ Ext C C' ∧ VR C' v cv ∧ K v σ') := by
 obtain ⟨Q, ⟨⟨fn, hf, hn, hb⟩, hs⟩, hk⟩ := hk
 refine ⟨callFunc_run hf hn hb _ _, hF.calls ((hs C cargs h ha).mono ?_)⟩
 rintro e w' ⟨C', cv, v, σ', hq, h1, h2, h3, h4, h5⟩
 exact ⟨C', cv, v, σ', h1, h2, h3, h4, h5, hk v σ' hq⟩
theorem VRl.append {C : Cx} {xs ys : List V} {cs ds : List Value} (h1 : VRl C xs cs) (h2 : VRl C ys ds) : VRl C (xs ++ ys) (cs ++ ds) := by
 refine ⟨by simp [h1.1, h2.1], fun j x c hx hc => ?_⟩
 by_cases hj : j < xs.length
 ·rw [List.getElem?_append_left hj] at hx
  rw [List.getElem?_append_left (by rw [h1.1]; exact hj)] at hc
  exact h1.2 j x c hx hc
 ·rw [List.getElem?_append_right (by omega)] at hx
  rw [List.getElem?_append_right (by rw [h1.1]; omega), h1.1] at hc
  exact h2.2 _ x c hx hc
theorem lift_value (hI : InvOK n0 Inv) {C C' : Cx} {md : Md} {env : Env} {σ σ' : List O} {a : Act} {dst : Option Nat} {v : V} {cv : Value} (h : R C σ) (h' : R C' σ') (hx : Ext C C') (hinv : Inv md C a.defers) (hN : N ≤ a.tmps.size)
  (he : ∀ t, VR C (get env t) (a.tmps.getD t undef)) (hd : dstOK N dst = true) (hv : VR C' v cv) {K : Kt} (hk : kput md env dst K v σ') : Lift Inv N K (a.put dst cv) C'.w :=
 ⟨C', md, put env dst v, σ', rfl, h', by rw [defers_put]; exact hI.ext hinv h.wf hx, by rw [size_put]; exact hN, env_put (fun t => (he t).ext hx h.wf) hN hd hv, hk⟩
theorem trBuiltin_call {b : Builtin} {args : List Operand} {ts : Array TypeId} {io : IOp} (h : trBuiltin P b args ts = some io) : io.isCall = false := by
 unfold trBuiltin at h
 repeat' split at h
 all_goals first
  | (cases h; done)
  | (obtain ⟨_, rfl⟩ := gd_some h; rfl)
  | (simp only [Option.map_eq_some_iff] at h; obtain ⟨_, _, rfl⟩ := h; rfl)
theorem trOp_call {frz : Bool} {o : Oper} {io : IOp} (h : trOp P frz o = some io) (hc : io.isCall = true) : ∃ c, o.op = .call c ∧
  ((∃ f args, io = .call f args ∧ c.callee = .value (.func f) ∧ trXs c.args.toList = some args) ∨
   (∃ x g args, io = .callv g args ∧ c.callee = .value x ∧ trX x = some g ∧ trXs c.args.toList = some args)) := by
 unfold trOp at h
 cases ho : o.op <;> simp only [ho] at h
 case call c =>
  refine ⟨c, rfl, ?_⟩
  split at h
  ·rename_i f hcal
   simp only [Option.map_eq_some_iff] at h
   obtain ⟨xs, hxs, rfl⟩ := h
   exact .inl ⟨f, xs, rfl, hcal, hxs⟩
  ·rename_i x _ hcal
   split at h
   ·rename_i g xs hg hxs
    cases h
    exact .inr ⟨_, g, xs, rfl, hcal, hg, hxs⟩
   ·cases h
  ·rw [trBuiltin_call h] at hc; cases hc
  ·cases h
 case makeMap t r =>
  exfalso
  cases r <;> simp only at h <;> cases h
  cases hc
 case next x b =>
  exfalso
  cases b <;> simp only at h
  ·simp only [Option.map_eq_some_iff] at h; obtain ⟨_, _, rfl⟩ := h; cases hc
  ·cases h
 all_goals exfalso
 all_goals repeat' split at h
 all_goals first
  | (cases h; done)
  | (cases h; cases hc; done)
  | (obtain ⟨_, rfl⟩ := gd_some h; cases hc; done)
  | (simp only [Option.map_eq_some_iff] at h; obtain ⟨_, _, rfl⟩ := h; cases hc; done)
theorem get_purE : ∀ {env : Env} {t : Nat}, get (purE env) t = if (get env t).pure = true then get env t else .u
 | [], t => by simp [purE, get, V.pure]
 | (s, v) :: r, t => by
  have ih := get_purE (env := r) (t := t)
  simp only [purE, List.map_cons, get] at ih ⊢
  split
  ·rfl
  ·exact ih
theorem abS_sound (hF : FOK F) (hW : F = Fence.wide ∨ Y = noY) (hI : InvOK n0 Inv) (hY : YOK P F Inv Y) {ops : Array Oper} {o : Oper} {ex : List Nat} {s : IS} (htr : trS P N ex ops o = some s) {K : Kt} {C : Cx} {md : Md} {env : Env} {σ : List O} {a : Act}
  (h : R C σ) (hinv : Inv md C a.defers) (hN : N ≤ a.tmps.size) (he : ∀ t, VR C (get env t) (a.tmps.getD t undef)) (hk : abS P Y n0 s K md env σ) (Q : Exit → Act → World → Prop) :
  if Region.wanted o (yielded ops a.tmps) = true then o.wpIn F 0 P a C.w (Lift Inv N K) Q else (∀ f, o.about P C.w a.eval = some f → F.fn f) ∧ Lift Inv N K (a.put o.dst undef) C.w := by
 have skipped : ∀ {dst : Option Nat}, dstOK N dst = true → K md (put env dst (.tup [])) σ → Lift Inv N K (a.put dst undef) C.w := fun hd hk =>
  lift_value hI h h (Ext.refl C) hinv hN he hd (.tup [] #[] rfl (by simp)) hk
 have ran : (∀ c, o.op ≠ .defer c) → (∃ r, (execOp a.eval o).run P C.w = r ∧ o.uponIn F 0 P a (Lift Inv N K) Q r) → o.wpIn F 0 P a C.w (Lift Inv N K) Q := by
  rintro hnd ⟨r, h1, h2⟩
  exact ⟨fun f _ => hF.fn f, by rw [hF.semAt _ _ hnd, h1]; exact h2⟩
 have hdep : F.depth.isSome = true → 1 ≤ 0 := by rw [hF.depth]; simp
 have fin : ∀ {f : FuncId} {args : List V} {cargs : List Value} {dst : Option Nat}, dstOK N o.dst = true → (execOp a.eval o).run P C.w = (callFunc f cargs.toArray).run P C.w → VRl C args cargs → callK P f args σ (kput md env o.dst K) →
   ∃ r, (execOp a.eval o).run P C.w = r ∧ o.uponIn F 0 P a (Lift Inv N K) Q r := by
  intro f args cargs dst hd hrun hargs hk
  obtain ⟨h1, h2⟩ := enter_sound hF h hargs hk
  rw [hrun, h1]
  refine ⟨_, rfl, ?_⟩
  rw [Oper.uponIn_enter]
  refine ⟨hdep, h2.mono ?_⟩
  rintro e w' ⟨C', cv, v, σ', rfl, rfl, h3, h4, h5, h6⟩
  exact lift_value hI h h3 h4 hinv hN he hd h5 h6
 unfold trS at htr
 split at htr
 ·-- a call
  rename_i g f args hd hg htr'
  split at htr
  ·-- to which yield is handed on
   cases htr
   rcases guard_sound hg he hk with ⟨hw, hk⟩ | ⟨hw, hk⟩
   ·rw [if_pos hw]
    refine ran (trOp_not_defer htr') ?_
    obtain ⟨c, ho, hc | ⟨x, g', args', hE, hcal, hx, hxs⟩⟩ := trOp_call htr' rfl
    ·obtain ⟨f', args', hE, hcal, hxs⟩ := hc
     cases hE
     have hargs := trXs_sound (C := C) he hxs
     obtain ⟨hny, rfl, s1, g1, l, Ny, X, Pre, J, Dn, rfl, ⟨⟨fn, hf, hfn, hb⟩, hys⟩, hpre, hj0, hyj, hk1, hk2⟩ := hk
     have hFw : F = Fence.wide := hW.resolve_right hny
     subst hFw
     have hrun : (execOp a.eval o).run P C.w = (callFunc f (c.args.toList.map a.eval).toArray).run P C.w := by
      simp only [execOp, ho, resolve, hcal, Act.eval, Deferred.ofValue, Sem.run_bind, Sem.run_pure, Result.andThen_ok, invoke]
      congr 2
      simp [← Array.toList_inj]
     rw [callFunc_run hf hfn hb] at hrun
     rw [hrun]
     refine ⟨_, rfl, ?_⟩
     rw [Oper.uponIn_enter]
     let Inv2 : Md → Cx → List Deferred → Prop := fun md C D => D = [] ∧ Inv md C a.defers
     have hI2 : InvOK n0 Inv2 := {
      ext := fun {md C C' D} h wf x => ⟨h.1, hI.ext h.2 wf x⟩
      trunc := fun {md C D n} h wf hn => ⟨h.1, hI.trunc h.2 wf hn⟩
      le := fun {md C D} h => hI.le h.2 }
     have hY2 : YOK P Fence.wide Inv2 Y := by
      rintro l' args σ' Kont C D cargs ⟨rfl, h1⟩ h2 h3 h4
      obtain ⟨fn', tmps, asg, body, w', r1, r2⟩ := hY l' args σ' Kont C a.defers cargs h1 h2 h3 h4
      refine ⟨fn', tmps, asg, body, w', r1, r2.mono ?_⟩
      rintro e w'' ⟨md', C', b, σ'', e1, e2, e3, e4, e5, e6⟩
      exact ⟨md', C', b, σ'', e1, e2, e3, e4, ⟨rfl, e5⟩, e6⟩
     refine ⟨hdep, (hys Inv2 Y J Dn C _ hI2 hY2 h ⟨rfl, hinv⟩ hj0 hpre hargs hyj).mono ?_⟩
     rintro e w' ⟨C', b, md', σ', rfl, rfl, h3, h4, ⟨-, h5⟩, h6⟩
     have hn0 : n0 ≤ σ'.length := by rw [h3.len]; exact hI.le h5
     have henv : ∀ t, VR C' (get (purE env) t) (a.tmps.getD t undef) := by
      intro t
      rw [get_purE]
      split
      ·rename_i hp
       exact h4 _ _ hp (he t)
      ·exact .u _
     refine ⟨C', md', put (purE env) o.dst (.b b), σ', rfl, h3, by rw [defers_put]; exact h5, by rw [size_put]; exact hN, env_put henv hN hd (.b b), ?_⟩
     cases md' with
     | none => obtain ⟨rfl, h6⟩ := h6; exact hk1 _ h6 h3.ltAll hn0
     | some j => obtain ⟨rfl, h6⟩ := h6; exact hk2 _ _ h6 h3.ltAll hn0
    ·cases hE
   ·rw [if_neg (by rw [hw]; simp)]
    exact ⟨fun f _ => hF.fn f, skipped hd hk⟩
  split at htr
  ·-- of which a relation is known
   cases htr
   rcases guard_sound hg he hk with ⟨hw, hk⟩ | ⟨hw, hk⟩
   ·rw [if_pos hw]
    refine ran (trOp_not_defer htr') ?_
    obtain ⟨c, ho, hc | ⟨x, g', args', hE, hcal, hx, hxs⟩⟩ := trOp_call htr' rfl
    ·obtain ⟨f', args', hE, hcal, hxs⟩ := hc
     cases hE
     have hargs := trXs_sound (C := C) he hxs
     obtain ⟨h1, h2⟩ := enterR_sound hF h hargs hk
     have hrun : (execOp a.eval o).run P C.w = (callFunc f (c.args.toList.map a.eval).toArray).run P C.w := by
      simp only [execOp, ho, resolve, hcal, Act.eval, Deferred.ofValue, Sem.run_bind, Sem.run_pure, Result.andThen_ok, invoke]
      congr 2
      simp [← Array.toList_inj]
     rw [hrun, h1]
     refine ⟨_, rfl, ?_⟩
     rw [Oper.uponIn_enter]
     refine ⟨hdep, h2.mono ?_⟩
     rintro e w' ⟨C', cv, v, σ', rfl, rfl, h3, h4, h5, h6⟩
     exact lift_value hI h h3 h4 hinv hN he hd h5 h6
    ·cases hE
   ·rw [if_neg (by rw [hw]; simp)]
    exact ⟨fun f _ => hF.fn f, skipped hd hk⟩
  split at htr
  ·-- that counts as loud
   cases htr
   rcases guard_sound hg he hk with ⟨hw, hk⟩ | ⟨hw, hk⟩
   ·rw [if_pos hw]
    refine ran (trOp_not_defer htr') ?_
    obtain ⟨c, ho, hc | ⟨x, g', args', hE, hcal, hx, hxs⟩⟩ := trOp_call htr' rfl
    ·obtain ⟨f', args', hE, hcal, hxs⟩ := hc
     cases hE
     have hargs := trXs_sound (C := C) he hxs
     have hk' : callK P f (args.map (Od.ev (get env))) σ (kput md env o.dst K) := by
      have e : callvK P Y n0 ((Od.fn f).ev (get env)) md env (args.map (Od.ev (get env))) σ o.dst K = callK P f ([] ++ args.map (Od.ev (get env)) ++ []) σ (kput md env o.dst K) := rfl
      rw [e, List.nil_append, List.append_nil] at hk
      exact hk
     refine fin (dst := none) hd ?_ hargs hk'
     simp only [execOp, ho, resolve, hcal, Act.eval, Deferred.ofValue, Sem.run_bind, Sem.run_pure, Result.andThen_ok, invoke]
     congr 2
     simp [← Array.toList_inj]
    ·cases hE
   ·rw [if_neg (by rw [hw]; simp)]
    exact ⟨fun f _ => hF.fn f, skipped hd hk⟩
  cases htr
  rcases guard_sound hg he hk with ⟨hw, hk⟩ | ⟨hw, hk⟩
  ·rw [if_pos hw]
   refine ran (trOp_not_defer htr') ?_
   obtain ⟨c, ho, hc | ⟨x, g', args', hE, hcal, hx, hxs⟩⟩ := trOp_call htr' rfl
   ·obtain ⟨f', args', hE, hcal, hxs⟩ := hc
    cases hE
    have hargs := trXs_sound (C := C) he hxs
    refine fin (dst := none) hd ?_ hargs hk
    simp only [execOp, ho, resolve, hcal, Act.eval, Deferred.ofValue, Sem.run_bind, Sem.run_pure, Result.andThen_ok, invoke]
    congr 2
    simp [← Array.toList_inj]
   ·cases hE
  ·rw [if_neg (by rw [hw]; simp)]
   exact ⟨fun f _ => hF.fn f, skipped hd hk⟩
 ·-- a call of a value
  rename_i g x args hd hg htr'
  cases htr
  rcases guard_sound hg he hk with ⟨hw, hk⟩ | ⟨hw, hk⟩
  ·rw [if_pos hw]
   refine ran (trOp_not_defer htr') ?_
   obtain ⟨c, ho, ⟨f', args', hE, _⟩ | ⟨x', g', args', hE, hcal, hx, hxs⟩⟩ := trOp_call htr' rfl
   ·cases hE
   ·cases hE
    have hargs := trXs_sound (C := C) he hxs
    have hxv := trX_sound (C := C) hx he
    unfold callvK at hk
    split at hk
    ·rename_i f first cap hev
     rw [hev] at hxv
     obtain ⟨cf, cc, hfe, hl1, hl2, h1, h2⟩ : ∃ cf cc, a.eval x' = .func (.func f) cf cc ∧ cf.size = first.length ∧ cc.size = cap.length ∧
       (∀ (j : Nat) (x : V) (c : Value), first[j]? = some x → cf[j]? = some c → VR C x c) ∧ (∀ (j : Nat) (x : V) (c : Value), cap[j]? = some x → cc[j]? = some c → VR C x c) := by
      generalize a.eval x' = cv at hxv
      cases hxv with
      | f _ _ _ cf cc a1 a2 a3 a4 => exact ⟨cf, cc, rfl, a1, a2, a3, a4⟩
     refine fin (dst := none) hd (cargs := cf.toList ++ c.args.toList.map a.eval ++ cc.toList) ?_ ?_ hk
     ·have hrun : (execOp a.eval o).run P C.w = (callFunc f (cf ++ c.args.map a.eval ++ cc)).run P C.w := by
       simp only [execOp, ho, resolve, hcal, hfe, Deferred.ofValue, Sem.run_bind, Sem.run_pure, Result.andThen_ok, invoke]
      rw [hrun]
      congr 2
      simp [← Array.toList_inj]
     ·exact (VRl.append ⟨by simpa using hl1, fun j x c hx hc => h1 j x c hx (by simpa using hc)⟩ hargs).append ⟨by simpa using hl2, fun j x c hx hc => h2 j x c hx (by simpa using hc)⟩
    ·rename_i l hev
     rw [hev] at hxv
     obtain ⟨rfl, k, n, hn0, hn, hk⟩ := hk
     have hfe : a.eval x' = .func (.yield l) #[] #[] := by
      generalize a.eval x' = cv at hxv
      cases hxv with
      | f _ _ _ cf cc a1 a2 a3 a4 =>
       have e1 : cf = #[] := by simpa using a1
       have e2 : cc = #[] := by simpa using a2
       rw [e1, e2]
     have hrun : (execOp a.eval o).run P C.w = (Instr.yield l (c.args.toList.map a.eval).toArray).run P C.w := by
      have : (c.args.toList.map a.eval).toArray = #[] ++ c.args.map a.eval := by simp [← Array.toList_inj]
      rw [this]
      simp only [execOp, ho, resolve, hcal, hfe, Deferred.ofValue, Sem.run_bind, Sem.run_pure, Result.andThen_ok, invoke]
     have hargs' : VRl (C.trunc n) (args.map (fun x => frz k n σ (x.ev (get env)))) (c.args.toList.map a.eval) := by
      refine ⟨by have := hargs.1; simpa using this, fun j x d hx hd' => ?_⟩
      rw [List.getElem?_map, Option.map_eq_some_iff] at hx
      obtain ⟨y, hy, rfl⟩ := hx
      exact frz_sound h k (hargs.2 j (y.ev (get env)) d (by rw [List.getElem?_map, hy]; rfl) hd')
     obtain ⟨fn, tmps, asg, body, w', h1, h2⟩ := hY l _ _ _ (C.trunc n) a.defers _ (hI.trunc hinv h.wf hn0) (frzS_sound h k hn) hargs' (by simpa [List.map_map, Function.comp_def] using hk)
     have h1' : (Instr.yield l (c.args.toList.map a.eval).toArray).run P C.w = .ok (.round l fn tmps asg body) w' := h1
     rw [hrun, h1']
     refine ⟨_, rfl, ?_⟩
     rw [Oper.uponIn_round]
     refine ⟨hdep, h2.mono ?_⟩
     rintro e w'' ⟨md', C', b, σ', rfl, rfl, h3, h4, h5, h6⟩
     exact ⟨C', md', _, σ', rfl, h3, by rw [defers_put]; exact h5, by rw [size_put]; exact hN,
      env_put (fun t => h4 _ _ (env_frz h he k n t)) hN hd (.b b), h6 h3.ltAll (by rw [h3.len]; exact hI.le h5)⟩
    ·exact hk.elim
  ·rw [if_neg (by rw [hw]; simp)]
   exact ⟨fun f _ => hF.fn f, skipped hd hk⟩
 ·-- any other operation
  rename_i g io hn1 hn2 hd hg htr'
  cases htr
  rcases guard_sound hg he hk with ⟨hw, hk⟩ | ⟨hw, hk⟩
  ·rw [if_pos hw]
   refine ran (trOp_not_defer htr') ?_
   obtain ⟨cv, C', v, σ', hr, h1, h2, h3, h4⟩ := ev_sound h he htr' hk
   refine ⟨_, rfl, ?_⟩
   rcases hr with hr | ⟨hr, rfl⟩
   ·rw [hr, Oper.uponIn_value]
    exact lift_value hI h h1 h2 hinv hN he hd h3 h4
   ·rw [hr, Oper.uponIn_skip]
    exact lift_value hI h h1 h2 hinv hN he hd h3 h4
  ·rw [if_neg (by rw [hw]; simp)]
   exact ⟨fun f _ => hF.fn f, skipped hd hk⟩
 ·cases htr
theorem abSs_sound (hF : FOK F) (hW : F = Fence.wide ∨ Y = noY) (hI : InvOK n0 Inv) (hY : YOK P F Inv Y) {ops : Array Oper} {ex : List Nat} {K : Kt} {Q : Exit → Act → World → Prop} (hQ : ∀ a w, Lift Inv N K a w → Q .normal a w) :
  ∀ {l : List Oper} {ss : List IS}, trSs P N ex ops l = some ss → ∀ {a : Act} {w : World}, Lift Inv N (abSs P Y n0 ss K) a w → wpListIn F 0 P ops Q l a w
 | [], ss, h, a, w, hl => by
  simp only [trSs, Option.some.injEq] at h
  subst h
  exact hQ a w hl
 | o :: l, ss, h, a, w, hl => by
  simp only [trSs] at h
  split at h
  ·rename_i s ss' hs hss
   cases h
   obtain ⟨C, md, env, σ, rfl, h2, h3, h4, h5, h6⟩ := hl
   have := abS_sound hF hW hI hY hs h2 h3 h4 h5 h6 Q
   simp only [wpListIn]
   split
   ·rename_i hw
    rw [if_pos hw] at this
    exact Oper.wpIn_mono (fun a w hl' => abSs_sound hF hW hI hY hQ hss hl') this
   ·rename_i hw
    rw [if_neg hw] at this
    exact ⟨this.1, abSs_sound hF hW hI hY hQ hss this.2⟩
  ·cases h
end
end Go.Ab
end
section
namespace Go.Ab
open Go
theorem evK_congr {g g' : Od → V} {σ : List O} {K : V → List O → Prop} {io : IOp} (h : ∀ x ∈ io.ods, g x = g' x) : evK g σ K io = evK g' σ K io := by
 cases io <;> simp only [IOp.ods, List.mem_cons, List.not_mem_nil, or_false, forall_eq_or_imp, forall_eq, List.mem_map, List.mem_append] at h <;> simp only [evK]
 case build zs ps =>
  rw [List.map_congr_left (fun p hp => by rw [h _ ⟨p, hp, rfl⟩])]
 case bsl f es n zs ps =>
  rw [List.map_congr_left (fun p hp => by rw [h _ ⟨p, hp, rfl⟩])]
 case mkf fn a b =>
  rw [List.map_congr_left (fun p hp => h p (.inl hp)), List.map_congr_left (l := b) (fun p hp => h p (.inr hp))]
 case slc es x lo hi m =>
  rw [h.1]
  have h1 : lo.map g = lo.map g' := by cases lo <;> simp_all
  have h2 : hi.map g = hi.map g' := by cases hi <;> simp_all
  have h3 : m.map g = m.map g' := by cases m <;> simp_all
  rw [h1, h2, h3]
 case mx xs => rw [List.map_congr_left h]
 case mn xs => rw [List.map_congr_left h]
 all_goals simp only [h]
def IOp.isNxt : IOp → Bool
 | .nxt _ => true
 | _ => false
def Point (T : (V → List O → Prop) → Prop) : Prop := ∀ K, T K → ∃ v σ', K v σ' ∧ ∀ K' : V → List O → Prop, K' v σ' → T K'
theorem binK_point {op : BinOp} {x y : V} {σ : List O} : Point fun K => binK op x y fun v => K v σ := by
 intro K h
 cases x <;> cases y <;> simp only [binK] at h ⊢ <;> first | exact h.elim | skip
 cases op <;> simp only at h ⊢ <;> first
  | exact ⟨_, _, h.2, fun _ hk => ⟨h.1, hk⟩⟩
  | exact ⟨_, _, h.2.2, fun _ hk => ⟨h.1, h.2.1, hk⟩⟩
theorem slcB_point {len : Nat} {lo hi m : Option V} {K : Nat → Nat → Option Nat → Prop} (h : slcB len lo hi m K) : ∃ a b c, K a b c ∧ ∀ K' : Nat → Nat → Option Nat → Prop, K' a b c → slcB len lo hi m K' := by
 unfold slcB at h ⊢
 split at h
 ·split at h
  ·split at h
   ·exact ⟨_, _, _, h, fun _ hk => hk⟩
   ·exact ⟨_, _, _, h.2.2, fun _ hk => ⟨h.1, h.2.1, hk⟩⟩
   ·exact h.elim
  ·split at h
   ·exact ⟨_, _, _, h.2.2, fun _ hk => ⟨h.1, h.2.1, hk⟩⟩
   ·exact ⟨_, _, _, h.2.2.2, fun _ hk => ⟨h.1, h.2.1, h.2.2.1, hk⟩⟩
   ·exact h.elim
  ·exact h.elim
 ·split at h
  ·split at h
   ·exact ⟨_, _, _, h.2.2.2, fun _ hk => ⟨h.1, h.2.1, h.2.2.1, hk⟩⟩
   ·exact ⟨_, _, _, h.2.2.2.2, fun _ hk => ⟨h.1, h.2.1, h.2.2.1, h.2.2.2.1, hk⟩⟩
   ·exact h.elim
  ·exact h.elim
 ·exact h.elim
theorem rowOf_point {es : Nat} {y : V} {σ : List O} {K : List V → Nat → Prop} (h : rowOf es y σ K) : ∃ a b, K a b ∧ ∀ K' : List V → Nat → Prop, K' a b → rowOf es y σ K' := by
 unfold rowOf at h ⊢
 split at h
 ·exact ⟨_, _, h.2, fun _ hk => ⟨h.1, hk⟩⟩
 ·split at h
  ·exact ⟨_, _, h.2.2.2, fun _ hk => ⟨h.1, h.2.1, h.2.2.1, hk⟩⟩
  ·exact h.elim
 ·exact h.elim
theorem lkpF_point {q : IntKind} {n : Nat} {zs : V} {ok : Bool} {ks : List Int} {l : List (V × V)} {σ : List O} : Point fun K => lkpF q n zs ok ks l fun v => K v σ := by
 intro K h
 unfold lkpF at h ⊢
 obtain ⟨h1, h⟩ := h
 split at h
 ·exact ⟨_, _, h, fun _ hk => ⟨h1, by simp_all⟩⟩
 ·exact ⟨_, _, h, fun _ hk => ⟨h1, by simp_all⟩⟩
theorem evK_point {g : Od → V} {σ : List O} {io : IOp} (hn : io.isNxt = false) : Point fun K => evK g σ K io := by
 intro K h
 cases io <;> simp only [IOp.isNxt] at hn <;> simp only [evK] at h ⊢
 case mov x => exact ⟨_, _, h, fun _ hk => hk⟩
 case pick c a b =>
  split at h
  ·exact ⟨_, _, h, fun _ hk => by simp_all⟩
  ·exact h.elim
 case alloc => exact ⟨_, _, h, fun _ hk => hk⟩
 case box x =>
  split at h
  ·exact ⟨_, _, h, fun _ hk => by simp_all⟩
  ·exact h.elim
 case build zs ps =>
  split at h
  ·exact ⟨_, _, h, fun _ hk => by simp_all⟩
  ·exact h.elim
 case bsl f es n zs ps =>
  split at h
  ·split at h
   ·exact ⟨_, _, h, fun _ hk => by simp_all⟩
   ·exact ⟨_, _, h, fun _ hk => by simp_all⟩
  ·exact h.elim
 case load1 a =>
  unfold ld1K at h ⊢
  split at h
  ·split at h
   ·exact ⟨_, _, h.2.2, fun _ hk => by simp_all⟩
   ·exact h.elim
  ·exact ⟨_, _, h.2, fun _ hk => by simp_all⟩
  ·exact h.elim
 case loadA n a =>
  unfold ldAK at h ⊢
  split at h
  ·split at h
   ·exact ⟨_, _, h.2.2, fun _ hk => by simp_all⟩
   ·exact h.elim
  ·exact ⟨_, _, h.2, fun _ hk => by simp_all⟩
  ·exact h.elim
 case store1 a x =>
  unfold st1K at h ⊢
  split at h
  ·split at h
   ·exact ⟨_, _, h.2.2.2, fun _ hk => by simp_all⟩
   ·exact h.elim
  ·exact h.elim
 case storeA n a x =>
  unfold stAK at h ⊢
  split at h
  ·split at h
   ·exact ⟨_, _, h.2.2.2, fun _ hk => by simp_all⟩
   ·exact h.elim
  ·exact h.elim
 case nilc x =>
  unfold nilcK at h ⊢
  split at h
  ·exact ⟨_, _, h.2, fun _ hk => by simp_all⟩
  ·exact ⟨_, _, h, fun _ hk => by simp_all⟩
  ·exact ⟨_, _, h, fun _ hk => by simp_all⟩
  ·exact h.elim
 case bin op x y => exact binK_point K h
 case eqv k n neq x y =>
  unfold eqvK at h ⊢
  split at h
  ·split at h
   ·exact ⟨_, _, h.2.2, fun _ hk => by simp_all⟩
   ·exact h.elim
  ·exact h.elim
 case eqb neq x y =>
  unfold eqbK at h ⊢
  split at h
  ·exact ⟨_, _, h, fun _ hk => by simp_all⟩
  ·exact h.elim
 case not x =>
  split at h
  ·exact ⟨_, _, h, fun _ hk => by simp_all⟩
  ·exact h.elim
 case com x =>
  split at h
  ·exact ⟨_, _, h, fun _ hk => by simp_all⟩
  ·exact h.elim
 case neg x =>
  split at h
  ·exact ⟨_, _, h, fun _ hk => by simp_all⟩
  ·exact h.elim
 case conv k x =>
  split at h
  ·exact ⟨_, _, h, fun _ hk => by simp_all⟩
  ·exact h.elim
 case mkf => exact ⟨_, _, h, fun _ hk => hk⟩
 case mkmap => exact ⟨_, _, h, fun _ hk => hk⟩
 case mksl es bytes zs l c =>
  split at h
  ·obtain ⟨rfl, h1, h2, h3, h⟩ := h
   exact ⟨_, _, h, fun _ hk => by simp_all⟩
  ·exact h.elim
 case slc es x lo hi m =>
  unfold slcK at h ⊢
  split at h
  ·rename_i id ver off len es' hx
   obtain ⟨a, b, c, hk, hall⟩ := slcB_point h.2.2
   exact ⟨_, _, hk, fun K' hk' => by
    exact ⟨h.1, h.2.1, hall _ hk'⟩⟩
  ·rename_i cells len full hx
   obtain ⟨a, b, c, hk, hall⟩ := slcB_point h
   exact ⟨_, _, hk, fun K' hk' => by
    exact hall _ hk'⟩
  ·exact h.elim
 case sla n es x =>
  unfold slaK at h ⊢
  split at h
  ·split at h
   ·exact ⟨_, _, h.2.2, fun _ hk => by simp_all⟩
   ·exact h.elim
  ·exact h.elim
 case fad o x =>
  unfold fadK at h ⊢
  split at h
  ·exact ⟨_, _, h.2, fun _ hk => by simp_all⟩
  ·exact ⟨_, _, h, fun _ hk => by simp_all⟩
  ·exact h.elim
 case fld1 off x =>
  split at h
  ·exact ⟨_, _, h.2, fun _ hk => by simp_all⟩
  ·exact h.elim
 case fldA off size x =>
  split at h
  ·exact ⟨_, _, h.2, fun _ hk => by simp_all⟩
  ·exact h.elim
 case ixa n es x i =>
  unfold ixaK at h ⊢
  split at h
  ·exact ⟨_, _, h.2.2.2, fun _ hk => by simp_all⟩
  ·exact ⟨_, _, h.2.2, fun _ hk => by simp_all⟩
  ·exact h.elim
 case ixs es x i =>
  unfold ixsK at h ⊢
  split at h
  ·exact ⟨_, _, h.2.2.2.2, fun _ hk => by simp_all⟩
  ·exact ⟨_, _, h.2.2, fun _ hk => by simp_all⟩
  ·exact h.elim
 case ixv n one x i =>
  unfold ixvK at h ⊢
  split at h
  ·split at h
   ·exact ⟨_, _, h.2.2.2, fun _ hk => by simp_all⟩
   ·exact ⟨_, _, h.2.2.2, fun _ hk => by simp_all⟩
  ·exact h.elim
 case ext i x =>
  unfold extK at h ⊢
  split at h
  ·exact ⟨_, _, h.2, fun _ hk => by simp_all⟩
  ·exact h.elim
 case len x =>
  unfold lenK at h ⊢
  split at h
  ·exact ⟨_, _, h.2, fun _ hk => by simp_all⟩
  ·exact ⟨_, _, h, fun _ hk => by simp_all⟩
  ·exact h.elim
 case lenm x =>
  unfold lenmK at h ⊢
  split at h
  ·exact ⟨_, _, h, fun _ hk => by simp_all⟩
  ·split at h
   ·exact ⟨_, _, h, fun _ hk => by simp_all⟩
   ·exact h.elim
  ·exact ⟨_, _, h, fun _ hk => by simp_all⟩
  ·exact h.elim
 case lens x =>
  unfold lensK at h ⊢
  split at h
  ·exact ⟨_, _, h, fun _ hk => by simp_all⟩
  ·exact h.elim
 case app es bytes x y =>
  unfold appK at h ⊢
  obtain ⟨ys, m, h, hall⟩ := rowOf_point h
  split at h
  ·obtain ⟨h1, h2, h⟩ := h
   split at h
   ·exact ⟨_, _, h, fun _ hk => hall _ (by simp_all)⟩
   ·exact ⟨_, _, h, fun _ hk => hall _ (by simp_all)⟩
  ·split at h
   ·obtain ⟨h1, h2, h3, h4, h⟩ := h
    split at h
    ·exact ⟨_, _, h, fun _ hk => hall _ (by simp_all)⟩
    ·exact ⟨_, _, h, fun _ hk => hall _ (by simp_all)⟩
   ·exact h.elim
  ·exact h.elim
 case clr es zs x =>
  unfold clrK at h ⊢
  split at h
  ·split at h
   ·obtain ⟨h1, h2, h3, h⟩ := h
    subst h1; subst h2
    exact ⟨_, _, h, fun _ hk => by simp_all⟩
   ·exact h.elim
  ·exact ⟨_, _, h, fun _ hk => by simp_all⟩
  ·exact h.elim
 case cpy es d s =>
  unfold cpyK at h ⊢
  obtain ⟨ys, m, h, hall⟩ := rowOf_point h
  split at h
  ·split at h
   ·obtain ⟨h1, h2, h3, h⟩ := h
    subst h1; subst h2
    exact ⟨_, _, h, fun _ hk => hall _ (by simp_all)⟩
   ·exact h.elim
  ·exact ⟨_, _, h, fun _ hk => hall _ (by simp_all)⟩
  ·exact h.elim
 case mx xs =>
  generalize xs.map g = l at *
  unfold mxK at h ⊢
  split at h
  ·split at h
   ·exact ⟨_, _, h, fun _ hk => by simp_all⟩
   ·exact h.elim
  ·exact h.elim
 case mn xs =>
  generalize xs.map g = l at *
  unfold mxK at h ⊢
  split at h
  ·split at h
   ·exact ⟨_, _, h, fun _ hk => by simp_all⟩
   ·exact h.elim
  ·exact h.elim
 case lkp q n zs ok x k =>
  unfold lkpK at h ⊢
  split at h
  ·split at h
   ·obtain ⟨v, σ', h1, h2⟩ := lkpF_point K h
    exact ⟨v, σ', h1, fun K' hk => by first | (simp only [*]; done) | (simp only [*]; exact h2 K' hk)⟩
   ·split at h
    ·obtain ⟨v, σ', h1, h2⟩ := lkpF_point K h
     exact ⟨v, σ', h1, fun K' hk => by first | (simp only [*]; done) | (simp only [*]; exact h2 K' hk)⟩
    ·exact h.elim
   ·exact ⟨_, _, h, fun _ hk => by simp_all⟩
   ·exact h.elim
  ·exact h.elim
 case mset q n x k v =>
  unfold msetK at h ⊢
  split at h
  ·split at h
   ·obtain ⟨h1, h⟩ := h
    split at h
    ·exact ⟨_, _, h, fun _ hk => by simp_all⟩
    ·exact ⟨_, _, h, fun _ hk => by simp_all⟩
   ·exact h.elim
  ·exact h.elim
 case mdel q n x k =>
  unfold mdelK at h ⊢
  split at h
  ·split at h
   ·obtain ⟨h1, h⟩ := h
    split at h
    ·exact ⟨_, _, h, fun _ hk => by simp_all⟩
    ·exact ⟨_, _, h, fun _ hk => by simp_all⟩
   ·exact h.elim
  ·exact h.elim
 case sidx x i =>
  unfold sidxK at h ⊢
  split at h
  ·obtain ⟨h1, h⟩ := h
   split at h
   ·exact ⟨_, _, h, fun _ hk => by simp_all⟩
   ·exact h.elim
  ·exact h.elim
 case snil neq x =>
  unfold snilK at h ⊢
  split at h
  ·obtain ⟨h1, h⟩ := h
   exact ⟨_, _, h, fun _ hk => by simp_all⟩
  ·exact h.elim
 case ment q n zs x k =>
  unfold mentK at h ⊢
  split at h
  ·split at h
   ·obtain ⟨h1, h⟩ := h
    split at h
    ·split at h
     ·exact ⟨_, _, h, fun _ hk => by simp_all⟩
     ·exact h.elim
    ·exact ⟨_, _, h, fun _ hk => by simp_all⟩
   ·exact h.elim
  ·exact h.elim
 case mest x s v =>
  unfold mestK at h ⊢
  split at h
  ·split at h
   ·split at h
    ·exact ⟨_, _, h, fun _ hk => by simp_all⟩
    ·exact h.elim
   ·exact h.elim
  ·exact h.elim
 case rng x =>
  unfold rngK at h ⊢
  split at h
  ·split at h
   ·exact ⟨_, _, h, fun _ hk => by simp_all⟩
   ·exact h.elim
  ·exact h.elim
 case nxt x => cases hn
 case ent x =>
  unfold entK at h ⊢
  split at h
  ·split at h
   ·split at h
    ·obtain ⟨h1, h2, h3, h⟩ := h
     split at h
     ·exact ⟨_, _, h, fun _ hk => by simp_all⟩
     ·exact h.elim
    ·exact h.elim
   ·exact h.elim
  ·exact h.elim
end Go.Ab
end
section
namespace Go.Ab
open Go
theorem ev_congr {env env2 : Env} {x : Od} (h : ∀ t, x.tmp? = some t → get env2 t = get env t) : Od.ev (get env2) x = Od.ev (get env) x := by
 cases x with
 | t n => exact h n rfl
 | c v => rfl
 | fn f => rfl
theorem map_ev_congr {env env2 : Env} {xs : List Od} (h : ∀ t, t ∈ xs.filterMap Od.tmp? → get env2 t = get env t) : xs.map (Od.ev (get env2)) = xs.map (Od.ev (get env)) :=
 List.map_congr_left fun x hx => ev_congr fun t ht => h t (List.mem_filterMap.2 ⟨x, hx, ht⟩)
def Pt (P : Program) (n0 : Nat) (s : IS) (env : Env) (σ : List O) (v : V) (σ' : List O) : Prop :=
 ∀ (env2 : Env), (∀ t ∈ s.reads, get env2 t = get env t) → ∀ (md : Md) (K : Kt), K md (put env2 s.dst v) σ' → abS P noY n0 s K md env2 σ
theorem abS_point {P : Program} {n0 : Nat} {s : IS} (hc : s.calm = true) {K : Kt} {md : Md} {env : Env} {σ : List O} (h : abS P noY n0 s K md env σ) :
  ∃ v σ', K md (put env s.dst v) σ' ∧ Pt P n0 s env σ v σ' := by
 have key : ∀ (g : Option (Nat × Bool)) (dst : Option Nat) (run : Md → Env → Kt → Prop) (reads : List Nat), (∀ t ∈ (g.map (·.1)).toList, t ∈ reads) →
   (run md env K → ∃ v σ', K md (put env dst v) σ' ∧ ∀ env2, (∀ t ∈ reads, get env2 t = get env t) → ∀ md2 K2, K2 md2 (put env2 dst v) σ' → run md2 env2 K2) →
   guarded g md env σ (run md env K) dst K →
   ∃ v σ', K md (put env dst v) σ' ∧ ∀ env2, (∀ t ∈ reads, get env2 t = get env t) → ∀ md2 (K2 : Kt), K2 md2 (put env2 dst v) σ' → guarded g md2 env2 σ (run md2 env2 K2) dst K2 := by
  intro g dst run reads hsub hrun hgd
  cases g with
  | none => exact hrun hgd
  | some tw =>
   obtain ⟨t, want⟩ := tw
   simp only [guarded] at hgd ⊢
   split at hgd
   ·rename_i b hb
    by_cases hbw : b = want
    ·rw [if_pos hbw] at hgd
     obtain ⟨v, σ', h1, h2⟩ := hrun hgd
     refine ⟨v, σ', h1, fun env2 hag md2 K2 hk => ?_⟩
     rw [hag t (hsub t (by simp)), hb]
     simp only [if_pos hbw]
     exact h2 env2 hag md2 K2 hk
    ·rw [if_neg hbw] at hgd
     refine ⟨.tup [], σ, hgd, fun env2 hag md2 K2 hk => ?_⟩
     rw [hag t (hsub t (by simp)), hb]
     simp only [if_neg hbw]
     exact hk
   ·rename_i hb
    refine ⟨.tup [], σ, hgd, fun env2 hag md2 K2 hk => ?_⟩
    rw [hag t (hsub t (by simp)), hb]
    exact hk
   ·exact hgd.elim
 cases s with
 | op dst g io =>
  have hn : io.isNxt = false := by cases io <;> first | rfl | (simp [IS.calm] at hc)
  refine key g dst (fun md env K => evK (Od.ev (get env)) σ (kput md env dst K) io) (IS.op dst g io).reads (by simp [IS.reads, IS.g]; intro t ht; exact .inl ht) (fun hr => ?_) h
  obtain ⟨v, σ', h1, h2⟩ := evK_point hn _ hr
  refine ⟨v, σ', h1, fun env2 hag md2 K2 hk => ?_⟩
  rw [evK_congr (g' := Od.ev (get env)) (fun x hx => ev_congr fun t ht => hag t (by
   simp only [IS.reads, IS.ods, List.mem_append, List.mem_filterMap]
   exact .inr ⟨x, hx, ht⟩))]
  exact h2 _ hk
 | call dst g f args =>
  refine key g dst (fun md env K => callK P f (args.map (Od.ev (get env))) σ (kput md env dst K)) (IS.call dst g f args).reads (by simp [IS.reads, IS.g]; intro t ht; exact .inl ht) (fun hr => ?_) h
  obtain ⟨v, σ', h1, h2⟩ := hr
  refine ⟨v, σ', h2, fun env2 hag md2 K2 hk => ⟨v, σ', ?_, hk⟩⟩
  rw [map_ev_congr (env := env) fun t ht => hag t (by simp only [IS.reads, IS.ods, List.mem_append]; exact .inr ht)]
  exact h1
 | callv dst g x args =>
  refine key g dst (fun md env K => callvK P noY n0 (x.ev (get env)) md env (args.map (Od.ev (get env))) σ dst K) (IS.callv dst g x args).reads (by simp [IS.reads, IS.g]; intro t ht; exact .inl ht) (fun hr => ?_) h
  unfold callvK at hr
  split at hr
  ·rename_i f first cap hx
   obtain ⟨v, σ', h1, h2⟩ := hr
   refine ⟨v, σ', h2, fun env2 hag md2 K2 hk => ?_⟩
   have e1 : x.ev (get env2) = x.ev (get env) := ev_congr fun t ht => hag t (by
    simp only [IS.reads, IS.ods, List.mem_append, List.mem_filterMap]
    exact .inr ⟨x, by simp, ht⟩)
   have e2 : args.map (Od.ev (get env2)) = args.map (Od.ev (get env)) := map_ev_congr fun t ht => hag t (by
    simp only [IS.reads, IS.ods, List.mem_append, List.mem_filterMap, List.mem_cons]
    obtain ⟨y, hy, hy'⟩ := List.mem_filterMap.1 ht
    exact .inr ⟨y, .inr hy, hy'⟩)
   rw [e1, e2, hx]
   exact ⟨v, σ', h1, hk⟩
  ·obtain ⟨_, k, n, _, _, hh⟩ := hr
   exact hh.elim
  ·exact hr.elim
 | cally dst g f args => simp [IS.calm] at hc
 | callr dst g f args => simp [IS.calm] at hc
theorem put_eq {env env2 : Env} {dst : Option Nat} {v v' : V} (h : put env dst v' = put env dst v) : put env2 dst v' = put env2 dst v := by
 cases dst with
 | none => rfl
 | some d =>
  simp only [put, List.cons.injEq, Prod.mk.injEq, true_and, and_true] at h
  rw [h]
theorem Pt.eqv {P : Program} {n0 : Nat} {s : IS} {env e : Env} {σ σ' : List O} {v v' : V} (h : Pt P n0 s env σ v' σ') (he : put e s.dst v' = put e s.dst v) : Pt P n0 s env σ v σ' :=
 fun env2 hag md K hk => h env2 hag md K (by rw [put_eq he]; exact hk)
theorem recheck_pt {P : Program} {n0 j : Nat} {md : Md} {σ : List O} : ∀ {pend : List (IS × Env × V × List Nat)}, recheck P noY n0 j pend md σ →
  ∀ p ∈ pend, p.1.calm = true → p.2.2.2.contains j = true → Pt P n0 p.1 p.2.1 σ p.2.2.1 σ
 | [], _, p, hp, _, _ => by cases hp
 | (s, env, v, us) :: r, h, p, hp, hc, hu => by
  simp only [recheck] at h
  rcases List.mem_cons.1 hp with rfl | hp
  ·rw [if_pos hu] at h
   obtain ⟨v', σ', ⟨-, h1, rfl⟩, h2⟩ := abS_point hc h.1
   exact h2.eqv h1
  ·exact recheck_pt h.2 p hp hc hu
structure Data (P : Program) (n0 : Nat) (l : List (IS × List Nat)) (j : Nat) (ev : Nat → Env) (hv : Nat → List O) (vv : Nat → V) : Prop where
 step : ∀ i s us, l[i]? = some (s, us) → ev (j + i + 1) = put (ev (j + i)) s.dst (vv (j + i)) ∧ Pt P n0 s (ev (j + i)) (hv (j + i)) (vv (j + i)) (hv (j + i + 1)) ∧ (s.loud = false → hv (j + i + 1) = hv (j + i))
 again : ∀ i s us m, l[i]? = some (s, us) → i < m → m < l.length → us.contains (j + m) = true → Pt P n0 s (ev (j + i)) (hv (j + m + 1)) (vv (j + i)) (hv (j + m + 1))
theorem abD_data {P : Program} {n0 : Nat} {K : Kt} : ∀ (l : List (IS × List Nat)) (j : Nat) (pend : List (IS × Env × V × List Nat)) (md : Md) (env : Env) (σ : List O), (∀ p ∈ l, p.1.calm = true) → (∀ p ∈ pend, p.1.calm = true) →
  abDs P noY n0 l j pend K md env σ → ∃ ev hv vv, ev j = env ∧ hv j = σ ∧ Data P n0 l j ev hv vv ∧ (∀ p ∈ pend, ∀ m, m < l.length → p.2.2.2.contains (j + m) = true → Pt P n0 p.1 p.2.1 (hv (j + m + 1)) p.2.2.1 (hv (j + m + 1))) ∧ K md (ev (j + l.length)) (hv (j + l.length))
 | [], j, pend, md, env, σ, _, _, h => ⟨fun _ => env, fun _ => σ, fun _ => .u, rfl, rfl, ⟨fun i s us h => by simp at h, fun i s us m h => by simp at h⟩, fun p hp m hm => by simp at hm, h⟩
 | (s, us) :: r, j, pend, md, env, σ, hl, hpd, h => by
  simp only [abDs] at h
  have hcs := hl _ (List.mem_cons_self ..)
  obtain ⟨v, σ', ⟨-, hq, hrc, h⟩, hpt⟩ := abS_point hcs h
  have hpd' : ∀ p ∈ (if us.isEmpty then pend else (s, env, (match s.dst with | some d => get (put env s.dst v) d | none => .u), us) :: pend), p.1.calm = true := by
   intro p hp
   split at hp
   ·exact hpd p hp
   ·rcases List.mem_cons.1 hp with rfl | hp
    ·exact hcs
    ·exact hpd p hp
  obtain ⟨ev, hv, vv, e1, e2, hd, hpend, hk⟩ := abD_data r (j + 1) _ md _ σ' (fun p hp => hl p (List.mem_cons_of_mem _ hp)) hpd' h
  refine ⟨fun i => if i = j then env else ev i, fun i => if i = j then σ else hv i, fun i => if i = j then v else vv i, by simp, by simp, ⟨?_, ?_⟩, ?_, ?_⟩
  ·intro i s' us' hi
   cases i with
   | zero =>
    simp only [List.getElem?_cons_zero, Option.some.injEq, Prod.mk.injEq] at hi
    obtain ⟨rfl, rfl⟩ := hi
    have n1 : ¬ (j + 1 = j) := by omega
    simp only [Nat.add_zero, if_true, if_neg n1, e1, e2]
    exact ⟨trivial, hpt, hq⟩
   | succ i =>
    have n1 : ¬ (j + (i + 1) = j) := by omega
    have n2 : ¬ (j + (i + 1) + 1 = j) := by omega
    simp only [if_neg n1, if_neg n2]
    have := hd.step i s' us' (by simpa using hi)
    rw [show j + (i + 1) = j + 1 + i by omega]
    exact this
  ·intro i s' us' m hi him hm hu
   cases i with
   | zero =>
    simp only [List.getElem?_cons_zero, Option.some.injEq, Prod.mk.injEq] at hi
    obtain ⟨rfl, rfl⟩ := hi
    obtain ⟨m, rfl⟩ : ∃ m', m = m' + 1 := ⟨m - 1, by omega⟩
    have n1 : ¬ (j + (m + 1) + 1 = j) := by omega
    simp only [Nat.add_zero, if_true, if_neg n1]
    have hne : us.isEmpty = false := by
     cases us with
     | nil => simp at hu
     | cons => rfl
    have := hpend (s, env, (match s.dst with | some d => get (put env s.dst v) d | none => .u), us) (by rw [hne]; simp) m (by simp at hm; omega) (by rw [show j + 1 + m = j + (m + 1) by omega]; exact hu)
    rw [show j + (m + 1) + 1 = j + 1 + m + 1 by omega]
    refine this.eqv (e := env) ?_
    cases s.dst with
    | none => rfl
    | some d => simp [get_put]
   | succ i =>
    obtain ⟨m, rfl⟩ : ∃ m', m = m' + 1 := ⟨m - 1, by omega⟩
    have n1 : ¬ (j + (i + 1) = j) := by omega
    have n2 : ¬ (j + (m + 1) + 1 = j) := by omega
    simp only [if_neg n1, if_neg n2]
    have := hd.again i s' us' m (by simpa using hi) (by omega) (by simp at hm; omega) (by rw [show j + 1 + m = j + (m + 1) by omega]; exact hu)
    rw [show j + (i + 1) = j + 1 + i by omega, show j + (m + 1) = j + 1 + m by omega]
    exact this
  ·intro p hp m hm hu
   cases m with
   | zero =>
    have n1 : ¬ (j + 0 + 1 = j) := by omega
    simp only [if_neg n1, Nat.add_zero, e2]
    exact recheck_pt hrc p hp (hpd p hp) (by simpa using hu)
   | succ m =>
    have n1 : ¬ (j + (m + 1) + 1 = j) := by omega
    simp only [if_neg n1]
    rw [show j + (m + 1) + 1 = j + 1 + m + 1 by omega]
    refine hpend p ?_ m (by simp at hm; omega) (by rw [show j + 1 + m = j + (m + 1) by omega]; exact hu)
    split
    ·exact hp
    ·exact List.mem_cons_of_mem _ hp
  ·have n1 : ¬ (j + (r.length + 1) = j) := by omega
   simp only [List.length_cons, if_neg n1]
   rw [show j + (r.length + 1) = j + 1 + r.length by omega]
   exact hk
end Go.Ab
end
section
namespace Go.Ab
open Go
section
variable (ss : List IS) (ev : Nat → Env) (hv : Nat → List O) (vv : Nat → V)
def dstAt (i : Nat) : Option Nat := (ss[i]?).bind IS.dst
def loudAt (i : Nat) : Bool := ((ss[i]?).map IS.loud).getD false
def envT (S : Nat → Bool) : Nat → Env
 | 0 => ev 0
 | i + 1 => if S i then put (envT S i) (dstAt ss i) (vv i) else envT S i
def hT (S : Nat → Bool) : Nat → List O
 | 0 => hv 0
 | i + 1 => if S i && loudAt ss i then hv (i + 1) else hT S i
end
section
variable {ss : List IS} {ev : Nat → Env} {hv : Nat → List O} {vv : Nat → V} {S S' : Nat → Bool}
theorem envT_above {t i : Nat} : ∀ {n : Nat}, i ≤ n → (∀ j, i ≤ j → j < n → S j = true → dstAt ss j ≠ some t) → get (envT ss ev vv S n) t = get (envT ss ev vv S i) t := by
 intro n
 induction n with
 | zero => intro h _; have : i = 0 := by omega
           subst this; rfl
 | succ n ih =>
  intro h hw
  by_cases hi : i = n + 1
  ·subst hi; rfl
  ·have := ih (by omega) (fun j h1 h2 => hw j h1 (by omega))
   simp only [envT]
   split
   ·rename_i hs
    have hne := hw n (by omega) (by omega) hs
    cases hd : dstAt ss n with
    | none => exact this
    | some d =>
     rw [get_put, if_neg (by intro hE; subst hE; exact hne hd)]
     exact this
   ·exact this
theorem envT_below {t : Nat} : ∀ {i : Nat}, (∀ j, j < i → dstAt ss j = some t → S j = S' j) → get (envT ss ev vv S i) t = get (envT ss ev vv S' i) t := by
 intro i
 induction i with
 | zero => intro _; rfl
 | succ i ih =>
  intro hw
  have := ih (fun j h1 h2 => hw j (by omega) h2)
  simp only [envT]
  cases hd : dstAt ss i with
  | none => split <;> split <;> exact this
  | some d =>
   by_cases hdt : d = t
   ·subst hdt
    rw [hw i (by omega) hd]
    split
    ·rw [get_put, get_put]; simp
    ·exact this
   ·split <;> split <;> (try rw [get_put, if_neg hdt]) <;> (try rw [get_put, if_neg hdt]) <;> exact this
theorem hT_above {i : Nat} : ∀ {n : Nat}, i ≤ n → (∀ j, i ≤ j → j < n → S j = true → loudAt ss j = false) → hT ss hv S n = hT ss hv S i := by
 intro n
 induction n with
 | zero => intro h _; have : i = 0 := by omega
           subst this; rfl
 | succ n ih =>
  intro h hw
  by_cases hi : i = n + 1
  ·subst hi; rfl
  ·have := ih (by omega) (fun j h1 h2 => hw j h1 (by omega))
   simp only [hT]
   split
   ·rename_i hs
    simp only [Bool.and_eq_true] at hs
    rw [hw n (by omega) (by omega) hs.1] at hs
    cases hs.2
   ·exact this
theorem hT_below : ∀ {i : Nat}, (∀ j, j < i → loudAt ss j = true → S j = S' j) → hT ss hv S i = hT ss hv S' i := by
 intro i
 induction i with
 | zero => intro _; rfl
 | succ i ih =>
  intro hw
  have := ih (fun j h1 h2 => hw j (by omega) h2)
  simp only [hT]
  cases hl : loudAt ss i with
  | false => simpa using this
  | true => rw [hw i (by omega) hl]; split <;> first | rfl | exact this
theorem hT_last {i : Nat} : ∀ {n : Nat}, i ≤ n → hT ss hv S n = hT ss hv S i ∨ ∃ j, i ≤ j ∧ j < n ∧ S j = true ∧ loudAt ss j = true ∧ hT ss hv S n = hv (j + 1) := by
 intro n
 induction n with
 | zero => intro h; have : i = 0 := by omega
           subst this; exact .inl rfl
 | succ n ih =>
  intro h
  by_cases hi : i = n + 1
  ·subst hi; exact .inl rfl
  ·simp only [hT]
   split
   ·rename_i hs
    simp only [Bool.and_eq_true] at hs
    exact .inr ⟨n, by omega, by omega, hs.1, hs.2, rfl⟩
   ·rcases ih (by omega) with h1 | ⟨j, h1, h2, h3, h4, h5⟩
    ·exact .inl h1
    ·exact .inr ⟨j, h1, by omega, h3, h4, h5⟩
end
theorem bit_fold {acc : List Nat} {j : Nat} : ∀ {es : List Nat} {m : Nat}, bit (es.foldl (fun m e => m ||| (1 <<< e) ||| acc.getD e 0) m) j = true → bit m j = true ∨ ∃ e ∈ es, e = j ∨ bit (acc.getD e 0) j = true
 | [], m, h => .inl h
 | e :: es, m, h => by
  rcases bit_fold (es := es) h with h | ⟨e', he, h⟩
  ·simp only [bit, Nat.testBit_or, Bool.or_eq_true] at h
   rcases h with (h | h) | h
   ·exact .inl h
   ·refine .inr ⟨e, List.mem_cons_self .., .inl ?_⟩
    rw [Nat.one_shiftLeft, Nat.testBit_two_pow] at h
    simpa using h
   ·exact .inr ⟨e, List.mem_cons_self .., .inr h⟩
  ·exact .inr ⟨e', List.mem_cons_of_mem _ he, h⟩
theorem befores_spec : ∀ {es : List (List Nat)} {acc : List Nat}, (befores es acc).length = acc.length + es.length ∧ (∀ i, i < acc.length → (befores es acc).getD i 0 = acc.getD i 0) ∧
  ∀ i l j, es[i]? = some l → bit ((befores es acc).getD (acc.length + i) 0) j = true → ∃ e ∈ l, e = j ∨ (e < acc.length + i ∧ bit ((befores es acc).getD e 0) j = true)
 | [], acc => ⟨by simp [befores], fun i _ => rfl, fun i l j h => by simp at h⟩
 | l :: es, acc => by
  obtain ⟨h1, h2, h3⟩ := befores_spec (es := es) (acc := acc ++ [l.foldl (fun m e => m ||| (1 <<< e) ||| acc.getD e 0) 0])
  simp only [befores]
  refine ⟨by rw [h1]; simp; omega, fun i hi => ?_, fun i l' j hi hb => ?_⟩
  ·rw [h2 i (by simp; omega)]
   simp [List.getD, List.getElem?_append_left hi]
  ·cases i with
   | zero =>
    simp only [List.getElem?_cons_zero, Option.some.injEq] at hi
    subst hi
    rw [Nat.add_zero, h2 acc.length (by simp)] at hb
    have : (acc ++ [l.foldl (fun m e => m ||| (1 <<< e) ||| acc.getD e 0) 0]).getD acc.length 0 = l.foldl (fun m e => m ||| (1 <<< e) ||| acc.getD e 0) 0 := by
     simp [List.getD]
    rw [this] at hb
    rcases bit_fold hb with h | ⟨e, he, h | h⟩
    ·simp [bit] at h
    ·exact ⟨e, he, .inl h⟩
    ·refine ⟨e, he, .inr ?_⟩
     have hlt : e < acc.length := by
      by_cases hlt : e < acc.length
      ·exact hlt
      ·rw [List.getD, List.getElem?_eq_none (by omega)] at h
       simp [bit] at h
     refine ⟨by omega, ?_⟩
     rw [h2 e (by simp; omega)]
     simpa [List.getD, List.getElem?_append_left hlt] using h
   | succ i =>
    have := h3 i l' j (by simpa using hi) (by
     rw [List.length_append, List.length_singleton, show acc.length + 1 + i = acc.length + (i + 1) by omega]; exact hb)
    obtain ⟨e, he, h⟩ := this
    refine ⟨e, he, h.imp id fun ⟨a, b⟩ => ⟨by simp at a; omega, b⟩⟩
theorem before_in {es : List (List Nat)} {S : Nat → Bool} (hback : ∀ (i : Nat) (l : List Nat), es[i]? = some l → ∀ e ∈ l, e < i) (hclosed : ∀ (i : Nat) (l : List Nat), S i = true → es[i]? = some l → ∀ e ∈ l, S e = true) :
  ∀ (i : Nat) (l : List Nat) (j : Nat), es[i]? = some l → (∀ e ∈ l, S e = true) → bit ((befores es []).getD i 0) j = true → S j = true ∧ j < i := by
 intro i
 induction i using Nat.strongRecOn with
 | _ i ih =>
  intro l j hi hl hb
  obtain ⟨-, -, h3⟩ := befores_spec (es := es) (acc := [])
  obtain ⟨e, he, h⟩ := h3 i l j hi (by simpa using hb)
  have hlt := hback i l hi e he
  rcases h with rfl | ⟨_, h⟩
  ·exact ⟨hl e he, hlt⟩
  ·have hel : e < es.length := by have := (List.getElem?_eq_some_iff.1 hi).1; omega
   obtain ⟨a, b⟩ := ih e hlt _ j (List.getElem?_eq_getElem hel) (hclosed e _ (hl e he) (List.getElem?_eq_getElem hel)) h
   exact ⟨a, by omega⟩
theorem not_before {es : List (List Nat)} {S : Nat → Bool} (hback : ∀ (i : Nat) (l : List Nat), es[i]? = some l → ∀ e ∈ l, e < i) (hclosed : ∀ (i : Nat) (l : List Nat), S i = true → es[i]? = some l → ∀ e ∈ l, S e = true)
  {i j : Nat} {l : List Nat} (hj : es[j]? = some l) (hin : S j = true) (hi : S i = false) : bit ((befores es []).getD j 0) i = false := by
 cases hb : bit ((befores es []).getD j 0) i with
 | false => rfl
 | true =>
  have := (before_in hback hclosed j l i hj (hclosed j l hin hj) hb).1
  rw [hi] at this; cases this
theorem countP_lt {p q : Nat → Bool} {i : Nat} (hpq : ∀ j, p j = true → q j = true) (hp : p i = false) (hq : q i = true) : ∀ {l : List Nat}, i ∈ l → l.countP p < l.countP q := by
 have le : ∀ l : List Nat, l.countP p ≤ l.countP q := fun l => List.countP_mono_left (fun j _ => hpq j)
 intro l
 induction l with
 | nil => intro h; cases h
 | cons j r ih =>
  intro h
  rcases List.mem_cons.1 h with rfl | h
  ·rw [List.countP_cons_of_neg (by rw [hp]; simp), List.countP_cons_of_pos hq]
   have := le r
   omega
  ·have := ih h
   rw [List.countP_cons, List.countP_cons]
   by_cases hpj : p j = true
   ·simp [hpj, hpq j hpj]; omega
   ·simp [hpj]; split <;> omega
end Go.Ab
end
end
