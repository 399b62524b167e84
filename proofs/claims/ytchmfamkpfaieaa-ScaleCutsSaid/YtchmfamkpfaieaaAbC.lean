/- The abstract layer, part 12: every operation that is read off the code, other than calls, is sound. -/
import Derived.Test.YtchmfamkpfaieaaAbB
set_option linter.unusedVariables false
set_option linter.unusedSimpArgs false
set_option maxHeartbeats 1000000
namespace Go.Ab
open Go

section
variable {P : Program} {C : Cx} {σ : List O} {env : Nat → V} {a : Act}

theorem parts_split {ps : Array (Nat × Operand)} : (ps.map fun (i, x) => (i, a.eval x)) = (ps.toList.map fun p => (p.1, a.eval p.2)).toArray := by
  rw [← Array.toList_inj]; simp

theorem NextOK.of_val {K : V → List O → Prop} {s : Sem Next} {cv : Value} {v : V} (hr : s.run P C.w = .ok (.value cv) C.w) (h : R C σ) (hv : VR C v cv) (hk : K v σ) : NextOK C K (s.run P C.w) :=
  ⟨cv, C, v, σ, .inl hr, h, Ext.refl C, hv, hk⟩

theorem ev_sound (h : R C σ) (he : ∀ t, VR C (env t) (a.tmps.getD t undef)) {o : Oper} {frz : Bool} {io : IOp} (htr : trOp P frz o = some io)
    {K : V → List O → Prop} (hk : evK (Od.ev env) σ K io) : NextOK C K ((execOp a.eval o).run P C.w) := by
  unfold trOp at htr
  split at htr
  · -- move
    rename_i x ho
    simp only [Option.map_eq_some_iff] at htr
    obtain ⟨y, hy, rfl⟩ := htr
    exact NextOK.of_val (by simp [execOp, ho]) h (trX_sound hy he) hk
  · rename_i x ho
    simp only [Option.map_eq_some_iff] at htr
    obtain ⟨y, hy, rfl⟩ := htr
    exact NextOK.of_val (by simp [execOp, ho]) h (trX_sound hy he) hk
  · -- pick
    rename_i c x y ho
    split at htr
    · rename_i c' x' y' hc hx hy
      cases htr
      simp only [evK] at hk
      split at hk
      · rename_i t ht
        have hcv := trX_sound hc he
        rw [ht] at hcv
        have hcb := bool_inv hcv
        cases t
        · exact NextOK.of_val (by simp [execOp, ho, hcb, asBool]) h (trX_sound hy he) (by simpa using hk)
        · exact NextOK.of_val (by simp [execOp, ho, hcb, asBool]) h (trX_sound hx he) (by simpa using hk)
      · exact hk.elim
    · cases htr
  · -- alloc
    rename_i e ho
    simp only [Option.map_eq_some_iff] at htr
    obtain ⟨y, hy, rfl⟩ := htr
    simp only [execOp, ho]
    exact NextOK.of_done (alloc_sound h hy hk)
  · -- box
    rename_i t x ho
    simp only [Option.map_eq_some_iff] at htr
    obtain ⟨y, hy, rfl⟩ := htr
    simp only [execOp, ho]
    simp only [evK] at hk
    split at hk
    · rename_i cs hcs
      exact NextOK.of_done (box_sound h (trX_sound hy he) hcs hk)
    · exact hk.elim
  · -- build
    rename_i t ps ho
    simp only [execOp, ho, parts_split]
    split at htr
    · rename_i fs zs ht hz
      split at htr
      · rename_i qs hqs
        obtain ⟨hall, rfl⟩ := gd_some htr
        simp only [evK] at hk
        split at hk
        · rename_i cs hcs
          obtain ⟨hl, hp⟩ := trParts_sound (C := C) he hqs
          refine NextOK.of_done (build_struct h ht hall hz hl (fun j o s x i c hj hq => ?_) hcs hk)
          obtain ⟨hp1, hp2⟩ := hp j o s x i c hj hq
          refine ⟨?_, hp2⟩
          simp only [trParts'] at hp1
          split at hp1
          · rename_i f hf
            split at hp1
            · rename_i s' hs'
              cases hp1
              exact ⟨f, hf, rfl, hs'⟩
            · cases hp1
          · cases hp1
        · exact hk.elim
      · cases htr
    · rename_i n e zs ht hz
      split at htr
      · rename_i s hs
        simp only [Option.map_eq_some_iff] at htr
        obtain ⟨qs, hqs, rfl⟩ := htr
        simp only [evK] at hk
        split at hk
        · rename_i cs hcs
          obtain ⟨hl, hp⟩ := trParts_sound (C := C) he hqs
          refine NextOK.of_done (build_array h ht hs hz hl (fun j o s x i c hj hq => ?_) hcs hk)
          obtain ⟨hp1, hp2⟩ := hp j o s x i c hj hq
          cases hp1
          exact ⟨⟨rfl, rfl⟩, hp2⟩
        · exact hk.elim
      · cases htr
    · cases htr
  · -- buildSlice
    rename_i t n ps ho
    simp only [execOp, ho, parts_split]
    split at htr
    · rename_i e ht
      split at htr
      · rename_i s zs hs hz
        split at htr
        · rename_i qs hqs
          obtain ⟨hg, rfl⟩ := gd_some htr
          simp only [Bool.and_eq_true, beq_iff_eq, decide_eq_true_eq] at hg
          simp only [evK] at hk
          split at hk
          · rename_i cs hcs
            obtain ⟨hl, hp⟩ := trParts_sound (C := C) he hqs
            refine NextOK.of_done (bsl_sound h ht hs hz hg.1 hg.2 hl (fun j o s x i c hj hq => ?_) hcs frz hk)
            obtain ⟨hp1, hp2⟩ := hp j o s x i c hj hq
            cases hp1
            exact ⟨⟨rfl, rfl⟩, hp2⟩
          · exact hk.elim
        · cases htr
      · cases htr
    · cases htr
  · -- load
    rename_i t x ho
    simp only [execOp, ho]
    split at htr
    · rename_i y ha hx
      cases htr
      exact NextOK.of_done (Done.eqσ (K := K) (ld1_sound (K := fun v => K v σ) h (trX_sound hx he) hk ha))
    · rename_i n y ha hn hx
      cases htr
      exact NextOK.of_done (Done.eqσ (K := K) (ldA_sound (K := fun v => K v σ) h (trX_sound hx he) hk ha hn))
    · cases htr
  · -- store
    rename_i t x v ho
    simp only [execOp, ho]
    split at htr
    · rename_i n x' y' ha hn hx hy
      obtain ⟨hg, rfl⟩ := gd_some htr
      simp only [beq_iff_eq] at hg
      subst hg
      exact NextOK.of_doneU (st1_sound h (trX_sound hx he) (trX_sound hy he) hk hn)
    · rename_i n x' y' ha hn hx hy
      cases htr
      exact NextOK.of_doneU (stA_sound h (trX_sound hx he) (trX_sound hy he) hk hn)
    · cases htr
  · -- nilCheck
    rename_i x ho
    simp only [Option.map_eq_some_iff] at htr
    obtain ⟨y, hy, rfl⟩ := htr
    obtain ⟨v, h1, h2, h3⟩ := nilc_sound (K := fun v => K v σ) h (trX_sound hy he) hk a.eval x rfl o ho
    exact NextOK.of_val h1 h h2 h3
  · -- binOp
    rename_i op t x y r ho
    simp only [execOp, ho]
    split at htr
    · rename_i x' y' hx hy
      split at htr
      · cases htr
        exact NextOK.of_done (Done.eqσ (K := K) (bin_sound (K := fun v => K v σ) h (trX_sound hx he) (trX_sound hy he) hk t x y))
      · rename_i ht
        split at htr
        · cases htr
          exact NextOK.of_done (Done.eqσ (K := K) (eqb_sound (K := fun v => K v σ) (neq := false) h (trX_sound hx he) (trX_sound hy he) ht hk x y))
        · cases htr
          exact NextOK.of_done (Done.eqσ (K := K) (eqb_sound (K := fun v => K v σ) (neq := true) h (trX_sound hx he) (trX_sound hy he) ht hk x y))
        · cases htr
      · split at htr
        · rename_i q n hq
          cases htr
          exact NextOK.of_done (Done.eqσ (K := K) (eqv_sound (K := fun v => K v σ) (neq := false) h (trX_sound hx he) (trX_sound hy he) hq hk x y))
        · rename_i q n hq
          cases htr
          exact NextOK.of_done (Done.eqσ (K := K) (eqv_sound (K := fun v => K v σ) (neq := true) h (trX_sound hx he) (trX_sound hy he) hq hk x y))
        · cases htr
    · cases htr
  · -- unOp
    rename_i op t x ho
    simp only [execOp, ho]
    split at htr
    · simp only [Option.map_eq_some_iff] at htr
      obtain ⟨y, hy, rfl⟩ := htr
      have hv := trX_sound hy he
      simp only [evK] at hk
      revert hk
      generalize Od.ev env y = v at hv
      intro hk
      exact NextOK.of_done (not_sound (K := K) h hv (by cases v <;> exact hk))
    · simp only [Option.map_eq_some_iff] at htr
      obtain ⟨y, hy, rfl⟩ := htr
      have hv := trX_sound hy he
      simp only [evK] at hk
      revert hk
      generalize Od.ev env y = v at hv
      intro hk
      exact NextOK.of_done (neg_sound (K := K) h hv (by cases v <;> exact hk))
    · cases htr
  · -- convert
    rename_i s d x ho
    simp only [execOp, ho]
    split at htr
    · rename_i u k y hs hd hx
      cases htr
      have hv := trX_sound hx he
      simp only [evK] at hk
      revert hk
      generalize Od.ev env y = v at hv
      intro hk
      exact NextOK.of_done (conv_sound (K := K) h hv (by cases v <;> exact hk) (by rw [hs]; rfl) hd)
    · cases htr
  · -- makeFunc
    rename_i fn xs ys ho
    simp only [execOp, ho]
    split at htr
    · rename_i ps qs hp hq
      cases htr
      have h1 := trXs_sound (C := C) he hp
      have h2 := trXs_sound (C := C) he hq
      have hr : (Instr.makeFunc fn (xs.map a.eval) (ys.map a.eval)).run P C.w = .ok (.func fn (xs.map a.eval) (ys.map a.eval)) C.w := by simp [Instr.makeFunc]
      refine NextOK.of_done ?_
      rw [hr]
      refine Done.same h (.f fn _ _ _ _ (by simpa using h1.1) (by simpa using h2.1) (fun j x c hx hc => h1.2 j x c hx (by rw [← hc]; simp)) (fun j x c hx hc => h2.2 j x c hx (by rw [← hc]; simp))) hk
    · cases htr
  · -- makeMap
    rename_i t ho
    simp only [execOp, ho]
    cases htr
    exact NextOK.of_done (mkmap_sound h t hk)
  · -- makeSlice
    rename_i t l c ho
    simp only [execOp, ho]
    split at htr
    · rename_i e x y ht hx hy
      split at htr
      · rename_i i zs hi hz
        obtain ⟨hg, rfl⟩ := gd_some htr
        simp only [beq_iff_eq] at hg
        have hv := trX_sound hx he
        have hw := trX_sound hy he
        simp only [evK] at hk
        revert hk
        generalize Od.ev env x = v at hv
        generalize Od.ev env y = v' at hw
        intro hk
        exact NextOK.of_done (mksl_sound (K := K) h hv hw ht hi hz hg (by cases v <;> cases v' <;> exact hk))
      · cases htr
    · cases htr
  · -- slice
    rename_i t x lo hi mx ho
    simp only [execOp, ho]
    split at htr
    · rename_i y l hh m hx hl hhi hm
      obtain ⟨l1, l2⟩ := trO_sound (C := C) he hl
      obtain ⟨h1, h2⟩ := trO_sound (C := C) he hhi
      obtain ⟨m1, m2⟩ := trO_sound (C := C) he hm
      split at htr
      · rename_i e ht
        simp only [Option.map_eq_some_iff] at htr
        obtain ⟨s, hs, rfl⟩ := htr
        exact NextOK.of_done (Done.eqσ (K := K) (slc_sound (K := fun v => K v σ) h (trX_sound hx he) ht hs l1 l2 h1 h2 m1 m2 hk))
      · rename_i n e ht
        split at htr
        · simp only [Option.map_eq_some_iff] at htr
          obtain ⟨s, hs, rfl⟩ := htr
          have e1 : lo = none := by simpa using l2
          have e2 : hi = none := by simpa using h2
          have e3 : mx = none := by simpa using m2
          subst e1; subst e2; subst e3
          exact NextOK.of_done (Done.eqσ (K := K) (sla_sound (K := fun v => K v σ) h (trX_sound hx he) ht hs hk))
        · cases htr
      · cases htr
    · cases htr
  · -- fieldAddr
    rename_i s x f ho
    simp only [execOp, ho]
    split at htr
    · rename_i fs y hs hx
      split at htr
      · rename_i fl hf
        split at htr
        · rename_i n hn
          obtain ⟨hg, rfl⟩ := gd_some htr
          simp only [bne_iff_ne, ne_eq] at hg
          exact NextOK.of_done (Done.eqσ (K := K) (fad_sound (K := fun v => K v σ) h (trX_sound hx he) hs hf hn hg hk))
        · cases htr
      · cases htr
    · cases htr
  · -- field
    rename_i s x f ho
    simp only [execOp, ho]
    split at htr
    · rename_i fs y hs hx
      split at htr
      · rename_i fl hf
        split at htr
        · rename_i ha
          cases htr
          have hv := trX_sound hx he
          simp only [evK] at hk
          revert hk
          generalize Od.ev env y = v at hv
          intro hk
          exact NextOK.of_done (Done.eqσ (K := K) (fld1_sound (K := fun v => K v σ) h hv hs hf ha (by cases v <;> exact hk)))
        · rename_i n ha hn
          cases htr
          have hv := trX_sound hx he
          simp only [evK] at hk
          revert hk
          generalize Od.ev env y = v at hv
          intro hk
          exact NextOK.of_done (Done.eqσ (K := K) (fldA_sound (K := fun v => K v σ) h hv hs hf ha hn (by cases v <;> exact hk)))
        · cases htr
      · cases htr
    · cases htr
  · -- indexAddr
    rename_i t x i ho
    simp only [execOp, ho]
    split at htr
    · rename_i y j hx hi
      split at htr
      · rename_i n e ht
        simp only [Option.map_eq_some_iff] at htr
        obtain ⟨s, hs, rfl⟩ := htr
        exact NextOK.of_done (Done.eqσ (K := K) (ixa_sound (K := fun v => K v σ) h (trX_sound hx he) (trX_sound hi he) ht hs hk))
      · rename_i e ht
        simp only [Option.map_eq_some_iff] at htr
        obtain ⟨s, hs, rfl⟩ := htr
        exact NextOK.of_done (Done.eqσ (K := K) (ixs_sound (K := fun v => K v σ) h (trX_sound hx he) (trX_sound hi he) ht hs hk))
      · cases htr
    · cases htr
  · -- index
    rename_i t x i ho
    simp only [execOp, ho]
    split at htr
    · rename_i y j n e hx hi ht
      split at htr
      · rename_i s ha hs
        obtain ⟨hg, rfl⟩ := gd_some htr
        simp only [beq_iff_eq] at hg
        exact NextOK.of_done (Done.eqσ (K := K) (ixv_sound (K := fun v => K v σ) h (trX_sound hx he) (trX_sound hi he) ht hs (.inl ⟨rfl, hg, ha⟩) hk))
      · rename_i s ha hs
        cases htr
        exact NextOK.of_done (Done.eqσ (K := K) (ixv_sound (K := fun v => K v σ) h (trX_sound hx he) (trX_sound hi he) ht hs (.inr ⟨rfl, ha⟩) hk))
      · cases htr
    · cases htr
  · -- lookup
    rename_i t x k ok ho
    simp only [execOp, ho]
    split at htr
    · rename_i key e y z ht hx hkk
      split at htr
      · rename_i q n zv hkey hz ha
        split at htr
        · rename_i i hi
          split at htr
          · rename_i v hv
            obtain ⟨hg, rfl⟩ := gd_some htr
            exact NextOK.of_done (Done.eqσ (K := K) (lkp_sound (K := fun v => K v σ) h (trX_sound hx he) (trX_sound hkk he) ht hkey hz (.inl ha) (fun z' _ hz' => by
              obtain ⟨i', hi', hz'⟩ := hz'
              rw [hi] at hi'; cases hi'
              rw [hv] at hz'; cases hz'
              exact hg) hk))
          · cases htr
        · cases htr
      · cases htr
    · cases htr
  · -- mapUpdate
    rename_i t m k v ho
    simp only [execOp, ho]
    split at htr
    · rename_i key e x y z ht hx hy hz
      split at htr
      · rename_i q n hkey
        cases htr
        exact NextOK.of_doneU (mset_sound h (trX_sound hx he) (trX_sound hy he) (trX_sound hz he) ht hkey hk)
      · cases htr
    · cases htr
  · -- range
    rename_i t x ho
    simp only [execOp, ho]
    split at htr
    · rename_i k e y ht hx
      cases htr
      exact NextOK.of_done (rng_sound h (trX_sound hx he) ht hk)
    · cases htr
  · -- next
    rename_i x ho
    simp only [execOp, ho]
    simp only [Option.map_eq_some_iff] at htr
    obtain ⟨y, hy, rfl⟩ := htr
    exact NextOK.of_done (nxt_sound h (trX_sound hy he) o.type hk)
  · -- entry
    rename_i x ho
    simp only [execOp, ho]
    simp only [Option.map_eq_some_iff] at htr
    obtain ⟨y, hy, rfl⟩ := htr
    exact NextOK.of_done (Done.eqσ (K := K) (ent_sound (K := fun v => K v σ) h (trX_sound hy he) hk))
  · -- extract
    rename_i x i ho
    simp only [execOp, ho]
    simp only [Option.map_eq_some_iff] at htr
    obtain ⟨y, hy, rfl⟩ := htr
    exact NextOK.of_done (Done.eqσ (K := K) (ext_sound (K := fun v => K v σ) h (trX_sound hy he) hk))
  · -- call
    rename_i c ho
    split at htr
    · simp only [Option.map_eq_some_iff] at htr
      obtain ⟨y, hy, rfl⟩ := htr
      exact (hk : False).elim
    · split at htr
      · cases htr
        exact (hk : False).elim
      · cases htr
    · rename_i b hb
      exact builtin_sound h he ho hb htr hk
    · cases htr
  · cases htr

end
end Go.Ab
