import Derived.Test.YtgndegccjhdmmaaGreatPDx3
/- Part 4 of what the theorem in TC rests on: an abstract layer over the calculus, contracts of the functions of the program, and plain facts. -/
set_option linter.unusedVariables false
set_option linter.unusedSimpArgs false
set_option linter.constructorNameAsVariable false
set_option maxHeartbeats 4000000
set_option maxRecDepth 100000
section
section
namespace Go.Ab
open Go
section
variable {P : Program} {F : Fence} {n0 N : Nat} {Inv : Md → Cx → List Deferred → Prop}
theorem trSs_get {ex : List Nat} {ops : Array Oper} : ∀ {l : List Oper} {ss : List IS}, trSs P N ex ops l = some ss → ss.length = l.length ∧ ∀ (i : Nat) (o : Oper), l[i]? = some o → ∃ s, ss[i]? = some s ∧ trS P N ex ops o = some s
 | [], ss, h => by simp only [trSs, Option.some.injEq] at h; subst h; simp
 | o :: l, ss, h => by
  simp only [trSs] at h
  split at h
  ·rename_i s ss' hs hss
   cases h
   obtain ⟨h1, h2⟩ := trSs_get hss
   refine ⟨by simp [h1], fun i o' hi => ?_⟩
   cases i with
   | zero => simp at hi; subst hi; exact ⟨s, rfl, hs⟩
   | succ i => exact h2 i o' (by simpa using hi)
  ·cases h
theorem trS_dst {ex : List Nat} {ops : Array Oper} {o : Oper} {s : IS} (h : trS P N ex ops o = some s) : s.dst = o.dst := by
 unfold trS at h
 split at h
 ·split at h
  ·cases h; rfl
  ·split at h
   ·cases h; rfl
   ·split at h <;> cases h <;> rfl
 all_goals (cases h <;> rfl)
theorem drawOK_spec {es : List (List Nat)} {ss : List IS} {bs : List Nat} (h : drawOK es ss bs = true) {i : Nat} {s : IS} (hs : ss[i]? = some s) :
  s.calm = true ∧ (∀ e ∈ es.getD i [], e < i) ∧ ∀ j s', ss[j]? = some s' → i ≠ j →
   (∀ d, s'.dst = some d → (d ∈ s.reads ∨ s.dst = some d) → tied bs i j = true) ∧ (s'.loud = true → s.loud = true → tied bs i j = true) ∧ (s'.loud = true → s.loud = false → i < j ∨ tied bs i j = true) := by
 unfold drawOK at h
 have hi := List.all_eq_true.1 h i (List.mem_range.2 (List.getElem?_eq_some_iff.1 hs).1)
 rw [hs] at hi
 simp only [Bool.and_eq_true, List.all_eq_true, decide_eq_true_eq] at hi
 refine ⟨hi.1.1, hi.1.2, fun j s' hj hne => ?_⟩
 have hj' := hi.2 j (List.mem_range.2 (List.getElem?_eq_some_iff.1 hj).1)
 rw [hj] at hj'
 simp only [Bool.or_eq_true, beq_iff_eq, hne, false_or, Bool.and_eq_true] at hj'
 obtain ⟨h1, h2⟩ := hj'
 refine ⟨fun d hd hor => ?_, fun hl hls => ?_, fun hl hls => ?_⟩
 ·rw [hd] at h1
  simp only [Bool.or_eq_true, Bool.not_eq_true'] at h1
  rcases h1 with h1 | h1
  ·exfalso
   simp only [Bool.or_eq_false_iff, beq_eq_false_iff_ne] at h1
   rcases hor with h3 | h3
   ·have := h1.1; simp [h3] at this
   ·exact h1.2 h3
  ·exact h1
 ·rw [hl, hls] at h2
  simpa using h2
 ·rw [hl, hls] at h2
  simpa using h2
theorem drawn_quiet {C : Cx} {σ : List O} (h : R C σ) : R (C.world { C.w with drawn := C.w.drawn + 1 }) σ ∧ Ext C (C.world { C.w with drawn := C.w.drawn + 1 }) :=
 h.quiet rfl rfl rfl (Nat.le_refl _) (fun _ _ => rfl)
theorem drw_any (hF : FOK F) (hI : InvOK n0 Inv) {ops : Array Oper} {ss : List IS} {ex : List Nat} (htr : trSs P N ex ops ops.toList = some ss)
  (hok : drawOK (ops.toList.map trEdges) ss (befores (ops.toList.map trEdges) []) = true) {K : Kt} {Q : Exit → Act → World → Prop} (hQ : ∀ a w, Lift Inv N K a w → Q .normal a w) {a : Act} {w : World}
  (hl : Lift Inv N (abDs P noY n0 (ss.zip ((List.range ss.length).map (usOf ss (befores (ops.toList.map trEdges) [])))) 0 [] K) a w) : wpAnyIn F 0 P .any ops Q ops.size (Array.replicate ops.size false) a { w with drawn := w.drawn + 1 } := by
 obtain ⟨C, md, env, σ, rfl, hR, hinv, hN, he, hk⟩ := hl
 obtain ⟨hR1, hx1⟩ := drawn_quiet hR
 generalize hes : ops.toList.map trEdges = es at *
 generalize hbs : befores es [] = bs at *
 obtain ⟨hlen, hget⟩ := trSs_get htr
 have hn : ss.length = ops.size := by simpa using hlen
 have hesl : es.length = ss.length := by rw [← hes, hlen]; simp
 have hzip : ∀ (i : Nat) (s : IS), ss[i]? = some s → (ss.zip ((List.range ss.length).map (usOf ss bs)))[i]? = some (s, usOf ss bs i) := by
  intro i s hs
  have hlt := (List.getElem?_eq_some_iff.1 hs).1
  rw [List.getElem?_zip_eq_some]
  exact ⟨hs, by simp [hlt]⟩
 have hzl : (ss.zip ((List.range ss.length).map (usOf ss bs))).length = ss.length := by simp
 have hcalm : ∀ p ∈ ss.zip ((List.range ss.length).map (usOf ss bs)), p.1.calm = true := by
  intro p hp
  obtain ⟨i, hi⟩ := List.mem_iff_getElem?.1 hp
  obtain ⟨s, u⟩ := p
  rw [List.getElem?_zip_eq_some] at hi
  exact (drawOK_spec hok hi.1).1
 obtain ⟨ev, hv, vv, rfl, rfl, hd, -, hkend⟩ := abD_data _ 0 [] md env σ hcalm (by simp) hk
 rw [Nat.zero_add, hzl] at hkend
 have hstep : ∀ (i : Nat) (s : IS), ss[i]? = some s → ev (i + 1) = put (ev i) s.dst (vv i) ∧ Pt P n0 s (ev i) (hv i) (vv i) (hv (i + 1)) ∧ (s.loud = false → hv (i + 1) = hv i) := by
  intro i s hs
  have := hd.step i s _ (hzip i s hs)
  simpa using this
 have hagain : ∀ (i : Nat) (s : IS) (m : Nat), ss[i]? = some s → i < m → m < ss.length → (usOf ss bs i).contains m = true → Pt P n0 s (ev i) (hv (m + 1)) (vv i) (hv (m + 1)) := by
  intro i s m hs him hm hu
  have := hd.again i s _ m (hzip i s hs) him (by rw [hzl]; exact hm) (by simpa using hu)
  simpa using this
 have htextE : ∀ i, i ≤ ss.length → ∀ t, get (envT ss ev vv (fun _ => true) i) t = get (ev i) t := by
  intro i
  induction i with
  | zero => intro _ t; rfl
  | succ i ih =>
   intro hi t
   have hlt : i < ss.length := by omega
   have hs := List.getElem?_eq_getElem hlt
   have hda : dstAt ss i = (ss[i]).dst := by simp [dstAt, hs]
   simp only [envT, if_true]
   rw [(hstep i _ hs).1, hda]
   cases (ss[i]).dst with
   | none => exact ih (by omega) t
   | some d => rw [get_put, get_put, ih (by omega) t]
 have htextH : ∀ i, i ≤ ss.length → hT ss hv (fun _ => true) i = hv i := by
  intro i
  induction i with
  | zero => intro _; rfl
  | succ i ih =>
   intro hi
   have hlt : i < ss.length := by omega
   have hs := List.getElem?_eq_getElem hlt
   simp only [hT, Bool.true_and]
   split
   ·rfl
   ·rename_i hl
    rw [ih (by omega), (hstep i _ hs).2.2 (by simpa [loudAt, hs] using hl)]
 have hback : ∀ (i : Nat) (l : List Nat), es[i]? = some l → ∀ e ∈ l, e < i := by
  intro i l hi e hel
  have hlt : i < ss.length := by rw [← hesl]; exact (List.getElem?_eq_some_iff.1 hi).1
  exact (drawOK_spec hok (List.getElem?_eq_getElem hlt)).2.1 e (by simpa [List.getD, hi] using hel)
 have hedge : ∀ (i : Nat) (o : Oper), ops[i]? = some o → es[i]? = some (trEdges o) := by
  intro i o ho
  rw [← hes, List.getElem?_map, show ops.toList[i]? = some o by simpa using ho]; rfl
 have main : ∀ (fuel : Nat) (listed : Array Bool) (a : Act) (w : World), listed.size = ss.length → (List.range ss.length).countP (fun i => !listed.getD i true) ≤ fuel →
   (∀ (i : Nat) (l : List Nat), listed.getD i false = true → es[i]? = some l → ∀ e ∈ l, listed.getD e false = true) →
   (∃ C, C.w = w ∧ R C (hT ss hv (fun i => listed.getD i false) ss.length) ∧ Inv md C a.defers ∧ N ≤ a.tmps.size ∧ ∀ t, VR C (get (envT ss ev vv (fun i => listed.getD i false) ss.length) t) (a.tmps.getD t undef)) →
   wpAnyIn F 0 P .any ops Q fuel listed a w := by
  intro fuel
  have hdone : ∀ (listed : Array Bool) (a : Act) (w : World), listed.size = ss.length → Region.ready .any ops listed = [] →
    (∃ C, C.w = w ∧ R C (hT ss hv (fun i => listed.getD i false) ss.length) ∧ Inv md C a.defers ∧ N ≤ a.tmps.size ∧ ∀ t, VR C (get (envT ss ev vv (fun i => listed.getD i false) ss.length) t) (a.tmps.getD t undef)) → Q .normal a w := by
   intro listed a w hsz hready hst
   have hall : ∀ i, i < ss.length → listed.getD i false = true := by
    intro i
    induction i using Nat.strongRecOn with
    | _ i ih =>
     intro hi
     cases hli : listed.getD i false with
     | true => rfl
     | false =>
      exfalso
      have hio : i < ops.size := by omega
      have ho : ops[i]? = some ops[i] := Array.getElem?_eq_getElem hio
      have : i ∈ Region.ready .any ops listed := mem_ready.2 ⟨by
       have hl2 : i < listed.size := by omega
       simp [Array.getD, hl2] at hli ⊢; exact hli, _, ho, fun e hea hb => by
       have hel : e.on ∈ trEdges ops[i] := List.mem_map.2 ⟨e, List.mem_filter.2 ⟨by simpa using hea, hb⟩, rfl⟩
       have hlt := hback i _ (hedge i _ ho) e.on hel
       exact ih e.on hlt (by omega)⟩
      rw [hready] at this
      cases this
   obtain ⟨C, rfl, h1, h2, h3, h4⟩ := hst
   have hE : ∀ t, get (envT ss ev vv (fun i => listed.getD i false) ss.length) t = get (ev ss.length) t := fun t => by
    rw [envT_below (S' := fun _ => true) (fun j hj _ => hall j hj)]
    exact htextE _ (Nat.le_refl _) t
   have hH : hT ss hv (fun i => listed.getD i false) ss.length = hv ss.length := by
    rw [hT_below (S' := fun _ => true) (fun j hj _ => hall j hj)]
    exact htextH _ (Nat.le_refl _)
   exact hQ a C.w ⟨C, md, ev ss.length, hv ss.length, rfl, by rw [← hH]; exact h1, h2, h3, fun t => by rw [← hE t]; exact h4 t, hkend⟩
  induction fuel with
  | zero =>
   intro listed a w hsz hc hcl hst
   have hready : Region.ready .any ops listed = [] := by
    refine List.eq_nil_iff_forall_not_mem.2 fun i hi => ?_
    obtain ⟨h1, o, ho, -⟩ := mem_ready.1 hi
    have hio : i < ops.size := (Array.getElem?_eq_some_iff.1 ho).1
    have h0 : (List.range ss.length).countP (fun i => !listed.getD i true) = 0 := by omega
    have := List.countP_eq_zero.1 h0 i (List.mem_range.2 (by omega))
    simp only [h1, Bool.not_false, not_true_eq_false] at this
   exact ⟨hready, hdone listed a w hsz hready hst⟩
  | succ fuel ih =>
   intro listed a w hsz hc hcl hst
   refine ⟨fun hready => hdone listed a w hsz hready hst, fun i hi => ?_⟩
   obtain ⟨h1, o, ho, hed⟩ := mem_ready.1 hi
   have hio : i < ops.size := (Array.getElem?_eq_some_iff.1 ho).1
   have hlt : i < ss.length := by omega
   have hls : i < listed.size := by omega
   obtain ⟨s, hs, hts⟩ := hget i o (by simpa using ho)
   have hdst := trS_dst hts
   obtain ⟨hcalm, -, hpair⟩ := drawOK_spec hok hs
   have hSi : listed.getD i false = false := by simp [Array.getD, hls] at h1 ⊢; exact h1
   have hS' : ∀ j, (listed.setIfInBounds i true).getD j false = (decide (j = i) || listed.getD j false) := by
    intro j
    by_cases hji : j = i
    ·subst hji; simp [Array.getD, hls]
    ·have : (listed.setIfInBounds i true).getD j false = listed.getD j false := by
      simp only [Array.getD_eq_getD_getElem?]
      rw [Array.getElem?_setIfInBounds_ne (by omega)]
     rw [this]; simp [hji]
   have hin : ∀ e ∈ trEdges o, listed.getD e false = true := by
    intro e he
    obtain ⟨e', he', rfl⟩ := List.mem_map.1 he
    obtain ⟨h5, h6⟩ := List.mem_filter.1 he'
    exact hed e' (by simpa using h5) h6
   have hbefore : ∀ j, bit (bs.getD i 0) j = true → listed.getD j false = true ∧ j < i := by
    intro j hb
    rw [← hbs] at hb
    exact before_in hback hcl i _ j (hedge i o ho) hin hb
   have hnot : ∀ j, j < ss.length → listed.getD j false = true → bit (bs.getD j 0) i = false := by
    intro j hj hjl
    rw [← hbs]
    have hje : j < es.length := by omega
    exact not_before hback hcl (List.getElem?_eq_getElem hje) hjl hSi
   have hafter : ∀ j, j < ss.length → bit (bs.getD j 0) i = true → i < j ∧ listed.getD j false = false := by
    intro j hj hb
    constructor
    ·rw [← hbs] at hb
     have hje : j < es.length := by omega
     obtain ⟨-, -, h3⟩ := befores_spec (es := es) (acc := [])
     have : ∀ (j : Nat) (l : List Nat), es[j]? = some l → bit ((befores es []).getD j 0) i = true → i < j := fun j l hj hb =>
      (before_in (S := fun _ => true) hback (fun _ _ _ _ _ _ => rfl) j l i hj (fun _ _ => rfl) hb).2
     exact this j _ (List.getElem?_eq_getElem hje) hb
    ·cases hjl : listed.getD j false with
     | false => rfl
     | true => rw [hnot j hj hjl] at hb; cases hb
   have htied : ∀ j, j < ss.length → tied bs i j = true → (j < i → listed.getD j false = true) ∧ (i < j → listed.getD j false = false) := by
    intro j hj ht
    simp only [tied, Bool.or_eq_true] at ht
    rcases ht with ht | ht
    ·have := hbefore j ht
     exact ⟨fun _ => this.1, fun h => by omega⟩
    ·have := hafter j hj ht
     exact ⟨fun h => by omega, fun _ => this.2⟩
   have hwr : ∀ t, (t ∈ s.reads ∨ s.dst = some t) → ∀ j, j < ss.length → j ≠ i → dstAt ss j = some t → (j < i → listed.getD j false = true) ∧ (i < j → listed.getD j false = false) := by
    intro t ht j hj hji hdj
    have hsj := List.getElem?_eq_getElem hj
    simp only [dstAt, hsj, Option.bind_some] at hdj
    exact htied j hj ((hpair j _ hsj (by omega)).1 t hdj ht)
   have hreads : ∀ t ∈ s.reads, get (envT ss ev vv (fun i => listed.getD i false) ss.length) t = get (ev i) t := by
    intro t ht
    rw [envT_above (i := i) (by omega) (fun j h3 h4 h5 h6 => by
     by_cases hji : j = i
     ·subst hji; rw [hSi] at h5; cases h5
     ·have := (hwr t (.inl ht) j h4 hji h6).2 (by omega)
      rw [this] at h5; cases h5)]
    rw [envT_below (S' := fun _ => true) (fun j h3 h4 => (hwr t (.inl ht) j (by omega) (by omega) h4).1 h3)]
    exact htextE i (by omega) t
   have hheap : ∃ σ', Pt P n0 s (ev i) (hT ss hv (fun i => listed.getD i false) ss.length) (vv i) σ' ∧ σ' = hT ss hv (fun j => (listed.setIfInBounds i true).getD j false) ss.length := by
    have hla : loudAt ss i = s.loud := by simp [loudAt, hs]
    cases hloud : s.loud with
    | true =>
     have hlw : ∀ j, j < ss.length → j ≠ i → loudAt ss j = true → (j < i → listed.getD j false = true) ∧ (i < j → listed.getD j false = false) := by
      intro j hj hji hlj
      have hsj := List.getElem?_eq_getElem hj
      simp only [loudAt, hsj, Option.map_some, Option.getD_some] at hlj
      exact htied j hj ((hpair j _ hsj (by omega)).2.1 hlj hloud)
     have e1 : hT ss hv (fun i => listed.getD i false) ss.length = hv i := by
      rw [hT_above (i := i) (by omega) (fun j h3 h4 h5 => by
       by_cases hji : j = i
       ·subst hji; rw [hSi] at h5; cases h5
       ·cases hlj : loudAt ss j with
        | false => rfl
        | true => have := (hlw j h4 hji hlj).2 (by omega); rw [this] at h5; cases h5)]
      rw [hT_below (S' := fun _ => true) (fun j h3 h4 => (hlw j (by omega) (by omega) h4).1 h3)]
      exact htextH i (by omega)
     have e2 : hT ss hv (fun j => (listed.setIfInBounds i true).getD j false) ss.length = hv (i + 1) := by
      rw [hT_above (i := i + 1) (by omega) (fun j h3 h4 h5 => by
       rw [hS' j] at h5
       have hji : j ≠ i := by omega
       simp only [hji, decide_false, Bool.false_or] at h5
       cases hlj : loudAt ss j with
       | false => rfl
       | true => have := (hlw j h4 hji hlj).2 (by omega); rw [this] at h5; cases h5)]
      simp only [hT, hS' i, hla, hloud]
      simp
     exact ⟨hv (i + 1), by rw [e1]; exact (hstep i s hs).2.1, e2.symm⟩
    | false =>
     have e2 : hT ss hv (fun j => (listed.setIfInBounds i true).getD j false) ss.length = hT ss hv (fun i => listed.getD i false) ss.length := by
      refine hT_below (fun j h3 h4 => ?_)
      rw [hS' j]
      have hji : j ≠ i := by rintro rfl; rw [hla, hloud] at h4; cases h4
      simp [hji]
     refine ⟨_, ?_, e2.symm⟩
     have hlw : ∀ j, j < i → loudAt ss j = true → listed.getD j false = true := by
      intro j hji hlj
      have hj : j < ss.length := by omega
      have hsj := List.getElem?_eq_getElem hj
      simp only [loudAt, hsj, Option.map_some, Option.getD_some] at hlj
      rcases (hpair j _ hsj (by omega)).2.2 hlj hloud with h | h
      ·omega
      ·exact (htied j hj h).1 hji
     have e0 : hT ss hv (fun i => listed.getD i false) i = hv i := by
      rw [hT_below (S' := fun _ => true) (fun j h3 h4 => hlw j h3 h4)]
      exact htextH i (by omega)
     rcases hT_last (ss := ss) (hv := hv) (S := fun i => listed.getD i false) (i := i) (n := ss.length) (by omega) with h | ⟨j, h3, h4, h5, h6, h7⟩
     ·rw [h, e0]
      have hpt := (hstep i s hs).2.1
      rw [(hstep i s hs).2.2 hloud] at hpt
      exact hpt
     ·rw [h7]
      have hji : j ≠ i := by rintro rfl; rw [hla, hloud] at h6; cases h6
      refine hagain i s j hs (by omega) h4 ?_
      simp only [usOf, List.contains_iff_mem, List.mem_filter, List.mem_range, Bool.and_eq_true, decide_eq_true_eq, Bool.not_eq_true']
      exact ⟨h4, ⟨by omega, h6⟩, hnot j h4 h5⟩
   obtain ⟨σ', hpt, hσ'⟩ := hheap
   obtain ⟨C, rfl, g1, g2, g3, g4⟩ := hst
   have hrun := hpt _ hreads md (fun md' env' σ'' => md' = md ∧ env' = put (envT ss ev vv (fun i => listed.getD i false) ss.length) s.dst (vv i) ∧ σ'' = σ') ⟨rfl, rfl, rfl⟩
   have hsound := abS_sound hF (.inr rfl) hI noY_ok hts g1 g2 g3 g4 hrun Q
   have hnext : ∀ a w, Lift Inv N (fun md' env' σ'' => md' = md ∧ env' = put (envT ss ev vv (fun i => listed.getD i false) ss.length) s.dst (vv i) ∧ σ'' = σ') a w →
     wpAnyIn F 0 P .any ops Q fuel (listed.setIfInBounds i true) a w := by
    rintro a w ⟨C', md', env', σ'', rfl, k1, k2, k3, k4, rfl, rfl, rfl⟩
    refine ih _ a C'.w (by simpa using hsz) ?_ ?_ ⟨C', rfl, by rw [← hσ']; exact k1, k2, k3, fun t => ?_⟩
    ·have hlt' := countP_lt (p := fun j => !(listed.setIfInBounds i true).getD j true) (q := fun j => !listed.getD j true) (i := i) (l := List.range ss.length)
      (fun j hj => by
       by_cases hji : j = i
       ·subst hji; simp [Array.getD, hls] at hj
       ·have : (listed.setIfInBounds i true).getD j true = listed.getD j true := by
         simp only [Array.getD_eq_getD_getElem?]
         rw [Array.getElem?_setIfInBounds_ne (by omega)]
        rw [this] at hj; exact hj)
      (by simp [Array.getD, hls]) (by rw [h1]; rfl) (List.mem_range.2 hlt)
     omega
    ·intro j l hj hl e hel
     rw [hS' j] at hj
     rw [hS' e]
     simp only [Bool.or_eq_true, decide_eq_true_eq] at hj ⊢
     rcases hj with rfl | hj
     ·rw [hedge j o ho] at hl
      cases hl
      exact .inr (hin e hel)
     ·exact .inr (hcl j l hj hl e hel)
    ·have : get (envT ss ev vv (fun j => (listed.setIfInBounds i true).getD j false) ss.length) t = get (put (envT ss ev vv (fun i => listed.getD i false) ss.length) s.dst (vv i)) t := by
      have hda : dstAt ss i = s.dst := by simp [dstAt, hs]
      by_cases hdt : s.dst = some t
      ·rw [hdt, get_put, if_pos rfl]
       rw [envT_above (i := i + 1) (by omega) (fun j h3 h4 h5 h6 => by
        rw [hS' j] at h5
        have hji : j ≠ i := by omega
        simp only [hji, decide_false, Bool.false_or] at h5
        have := (hwr t (.inr hdt) j h4 hji h6).2 (by omega)
        rw [this] at h5; cases h5)]
       simp only [envT, hS' i, hda, hdt]
       simp [get_put]
      ·have e1 : get (put (envT ss ev vv (fun i => listed.getD i false) ss.length) s.dst (vv i)) t = get (envT ss ev vv (fun i => listed.getD i false) ss.length) t := by
        cases hsd : s.dst with
        | none => rfl
        | some d => rw [get_put, if_neg (by rintro rfl; exact hdt hsd)]
       rw [e1]
       refine envT_below (fun j h3 h4 => ?_)
       rw [hS' j]
       have hji : j ≠ i := by rintro rfl; rw [hda] at h4; exact hdt h4
       simp [hji]
     rw [this]
     exact k4 t
   unfold wpOpIn
   simp only [ho]
   split
   ·rename_i hw
    rw [if_pos hw] at hsound
    exact Oper.wpIn_mono hnext hsound
   ·rename_i hw
    rw [if_neg hw] at hsound
    exact ⟨hsound.1, hnext _ _ hsound.2⟩
 refine main ops.size _ a _ (by simp [hn]) ?_ ?_ ⟨C.world _, rfl, ?_, hI.ext hinv hR.wf hx1, hN, fun t => ?_⟩
 ·have := List.countP_le_length (p := fun i => !(Array.replicate ops.size false).getD i true) (l := List.range ss.length)
  simp only [List.length_range] at this
  omega
 ·intro i l hi
  exfalso
  by_cases hlt : i < ops.size <;> simp [Array.getD, hlt] at hi
 ·have : hT ss hv (fun i => (Array.replicate ops.size false).getD i false) ss.length = hv 0 := hT_above (i := 0) (Nat.zero_le _) (fun j _ h3 h4 => by
   have hlt : j < ops.size := by omega
   simp [Array.getD, hlt] at h4)
  rw [this]; exact hR1
 ·have : get (envT ss ev vv (fun i => (Array.replicate ops.size false).getD i false) ss.length) t = get (ev 0) t := envT_above (i := 0) (Nat.zero_le _) (fun j _ h3 h4 => by
   have hlt : j < ops.size := by omega
   simp [Array.getD, hlt] at h4)
  rw [this]; exact (he t).ext hx1 hR.wf
theorem drw_sound (hm : P.follows .mixedOrders = true) (hF : FOK F) (hI : InvOK n0 Inv) {ops : Array Oper} {ss : List IS} {ex : List Nat} (htr : trSs P N ex ops ops.toList = some ss)
  (hok : drawOK (ops.toList.map trEdges) ss (befores (ops.toList.map trEdges) []) = true) {id : Nat} {K : Kt} {Q : Exit → Act → World → Prop} (hQ : ∀ a w, Lift Inv N K a w → Q .normal a w) {a : Act} {w : World}
  (hl : Lift Inv N (abDs P noY n0 (ss.zip ((List.range ss.length).map (usOf ss (befores (ops.toList.map trEdges) [])))) 0 [] K) a w) : (Code.region id ops true).wpIn F 0 P Q a w :=
 wpIn_region_any hm (drw_any hF hI htr hok hQ hl)
def Lin (ops : Array Oper) : Array Bool → List Nat → Prop
 | listed, [] => Region.ready .any ops listed = []
 | listed, i :: l => i ∈ Region.ready .any ops listed ∧ Lin ops (listed.setIfInBounds i true) l
section
variable {ops : Array Oper}
theorem lin_go : ∀ (fuel t : Nat) (listed : Array Bool), listed.size = ops.size → (List.range ops.size).countP (fun i => !listed.getD i true) ≤ fuel → Lin ops listed (Region.linearise.go .any ops fuel t listed []) := by
 intro fuel
 induction fuel with
 | zero =>
  intro t listed hsz hc
  simp only [Region.linearise.go, List.reverse_nil, Lin]
  refine List.eq_nil_iff_forall_not_mem.2 fun i hi => ?_
  obtain ⟨h1, o, ho, -⟩ := mem_ready.1 hi
  have hio : i < ops.size := (Array.getElem?_eq_some_iff.1 ho).1
  have h0 : (List.range ops.size).countP (fun i => !listed.getD i true) = 0 := by omega
  have := List.countP_eq_zero.1 h0 i (List.mem_range.2 hio)
  simp only [h1, Bool.not_false, not_true_eq_false] at this
 | succ fuel ih =>
  intro t listed hsz hc
  simp only [Region.linearise.go]
  change Lin ops listed (match (Region.ready .any ops listed)[t % (Region.ready .any ops listed).length]? with
   | some i => Region.linearise.go .any ops fuel (t / (Region.ready .any ops listed).length) (listed.setIfInBounds i true) [i]
   | none => [].reverse)
  cases hi : (Region.ready .any ops listed)[t % (Region.ready .any ops listed).length]? with
  | none =>
   cases hr : Region.ready .any ops listed with
   | nil => exact hr
   | cons x xs =>
    rw [hr] at hi
    have hlt : t % (x :: xs).length < (x :: xs).length := Nat.mod_lt _ (by simp)
    simp at hi
    simp at hlt
    omega
  | some i =>
   simp only []
   rw [linearise_go_acc, List.reverse_singleton, List.singleton_append]
   have hm := List.mem_of_getElem? hi
   obtain ⟨h1, o, ho, -⟩ := mem_ready.1 hm
   have hio : i < ops.size := (Array.getElem?_eq_some_iff.1 ho).1
   refine ⟨hm, ih _ _ (by simpa using hsz) ?_⟩
   have hls : i < listed.size := by omega
   have hlt' := countP_lt (p := fun j => !(listed.setIfInBounds i true).getD j true) (q := fun j => !listed.getD j true) (i := i) (l := List.range ops.size)
    (fun j hj => by
     by_cases hji : j = i
     ·subst hji; simp [Array.getD, hls] at hj
     ·have : (listed.setIfInBounds i true).getD j true = listed.getD j true := by
       simp only [Array.getD_eq_getD_getElem?]
       rw [Array.getElem?_setIfInBounds_ne (by omega)]
      rw [this] at hj; exact hj)
    (by simp [Array.getD, hls]) (by rw [h1]; rfl) (List.mem_range.2 hio)
   omega
theorem any_lin {Q : Exit → Act → World → Prop} : ∀ {l : List Nat} {fuel : Nat} {listed : Array Bool} {a : Act} {w : World}, wpAnyIn F 0 P .any ops Q fuel listed a w → Lin ops listed l → l.length ≤ fuel → wpOpsIn F 0 P ops Q l a w
 | [], 0, _, _, _, h, _, _ => h.2
 | [], _ + 1, _, _, _, h, hl, _ => h.1 hl
 | i :: l, 0, _, _, _, _, _, hf => by simp at hf
 | i :: l, fuel + 1, listed, a, w, h, hl, hf => by
  rw [wpOpsIn_cons]
  exact wpOpIn_mono (fun a w h' => any_lin h' hl.2 (by simp at hf; omega)) (h.2 i hl.1)
theorem set_listed {listed : Array Bool} {i j : Nat} (hi : i < listed.size) : (listed.setIfInBounds i true).getD j false = (decide (j = i) || listed.getD j false) := by
 by_cases hji : j = i
 ·subst hji; simp [Array.getD, hi]
 ·have : (listed.setIfInBounds i true).getD j false = listed.getD j false := by
   simp only [Array.getD_eq_getD_getElem?]
   rw [Array.getElem?_setIfInBounds_ne (by omega)]
  rw [this]; simp [hji]
theorem ready_out {listed : Array Bool} {i : Nat} (hsz : listed.size = ops.size) (h : i ∈ Region.ready .any ops listed) : i < ops.size ∧ listed.getD i false = false := by
 obtain ⟨h1, o, ho, -⟩ := mem_ready.1 h
 have hio : i < ops.size := (Array.getElem?_eq_some_iff.1 ho).1
 have : i < listed.size := by omega
 refine ⟨hio, ?_⟩
 simp [Array.getD, this] at h1 ⊢
 exact h1
theorem lin_mem : ∀ {l : List Nat} {listed : Array Bool}, listed.size = ops.size → Lin ops listed l → l.Nodup ∧ ∀ i ∈ l, i < ops.size ∧ listed.getD i false = false
 | [], _, _, _ => by simp
 | i :: l, listed, hsz, h => by
  obtain ⟨h1, h2⟩ := ready_out hsz h.1
  obtain ⟨h3, h4⟩ := lin_mem (by simpa using hsz) h.2
  have hout : ∀ j ∈ l, j ≠ i ∧ j < ops.size ∧ listed.getD j false = false := by
   intro j hj
   obtain ⟨g1, g2⟩ := h4 j hj
   rw [set_listed (by omega)] at g2
   simp only [Bool.or_eq_false_iff, decide_eq_false_iff_not] at g2
   exact ⟨g2.1, g1, g2.2⟩
  refine ⟨List.nodup_cons.2 ⟨fun hi => (hout i hi).1 rfl, h3⟩, fun j hj => ?_⟩
  rcases List.mem_cons.1 hj with rfl | hj
  ·exact ⟨h1, h2⟩
  ·exact (hout j hj).2
def Back (ops : Array Oper) : Prop := ∀ (i : Nat) (o : Oper), ops[i]? = some o → ∀ e ∈ trEdges o, e < i
theorem lin_all (hb : Back ops) : ∀ {l : List Nat} {listed : Array Bool}, listed.size = ops.size → Lin ops listed l → ∀ i, i < ops.size → listed.getD i false = true ∨ i ∈ l
 | [], listed, hsz, h => by
  intro i
  induction i using Nat.strongRecOn with
  | _ i ih =>
   intro hi
   cases hli : listed.getD i false with
   | true => exact .inl rfl
   | false =>
    exfalso
    have ho : ops[i]? = some ops[i] := Array.getElem?_eq_getElem hi
    have : i ∈ Region.ready .any ops listed := mem_ready.2 ⟨by
     have hl2 : i < listed.size := by omega
     simp [Array.getD, hl2] at hli ⊢; exact hli, _, ho, fun e hea hbd => by
     have hel : e.on ∈ trEdges ops[i] := List.mem_map.2 ⟨e, List.mem_filter.2 ⟨by simpa using hea, hbd⟩, rfl⟩
     have hlt := hb i _ ho e.on hel
     rcases ih e.on hlt (by omega) with h | h
     ·exact h
     ·simp at h⟩
    have h' : Region.ready .any ops listed = [] := h
    rw [h'] at this
    cases this
 | i :: l, listed, hsz, h => by
  intro j hj
  obtain ⟨h1, h2⟩ := ready_out hsz h.1
  rcases lin_all hb (by simpa using hsz) h.2 j hj with g | g
  ·rw [set_listed (by omega)] at g
   simp only [Bool.or_eq_true, decide_eq_true_eq] at g
   rcases g with rfl | g
   ·exact .inr (List.mem_cons_self ..)
   ·exact .inl g
  ·exact .inr (List.mem_cons_of_mem _ g)
def Closed (ops : Array Oper) (listed : Array Bool) : Prop := ∀ (i : Nat) (o : Oper), listed.getD i false = true → ops[i]? = some o → ∀ e ∈ trEdges o, listed.getD e false = true
theorem ready_edges {listed : Array Bool} {i : Nat} {o : Oper} (h : i ∈ Region.ready .any ops listed) (ho : ops[i]? = some o) : ∀ e ∈ trEdges o, listed.getD e false = true := by
 obtain ⟨h1, o', ho', hed⟩ := mem_ready.1 h
 rw [ho] at ho'
 cases ho'
 intro e he
 obtain ⟨e', he', rfl⟩ := List.mem_map.1 he
 obtain ⟨h5, h6⟩ := List.mem_filter.1 he'
 exact hed e' (by simpa using h5) h6
theorem Closed.set {listed : Array Bool} {i : Nat} (hc : Closed ops listed) (hsz : listed.size = ops.size) (h : i ∈ Region.ready .any ops listed) : Closed ops (listed.setIfInBounds i true) := by
 obtain ⟨h1, h2⟩ := ready_out hsz h
 intro j o hj ho e he
 rw [set_listed (by omega)] at hj ⊢
 simp only [Bool.or_eq_true, decide_eq_true_eq] at hj ⊢
 rcases hj with rfl | hj
 ·exact .inr (ready_edges h ho e he)
 ·exact .inr (hc j o hj ho e he)
theorem lin_ord (hb : Back ops) : ∀ {l : List Nat} {listed : Array Bool}, listed.size = ops.size → Closed ops listed → Lin ops listed l → ordOK (befores (ops.toList.map trEdges) []) l = true
 | [], _, _, _, _ => rfl
 | x :: r, listed, hsz, hc, h => by
  obtain ⟨h1, h2⟩ := ready_out hsz h.1
  have hnd := lin_mem (by simpa using hsz) h.2
  simp only [ordOK, Bool.and_eq_true, List.all_eq_true, Bool.not_eq_true']
  refine ⟨fun y hy => ?_, lin_ord hb (by simpa using hsz) (hc.set hsz h.1) h.2⟩
  cases hbit : bit ((befores (ops.toList.map trEdges) []).getD x 0) y with
  | false => rfl
  | true =>
   exfalso
   have ho : ops[x]? = some ops[x] := Array.getElem?_eq_getElem h1
   have hes : ∀ (i : Nat) (l : List Nat), (ops.toList.map trEdges)[i]? = some l → ∃ o, ops[i]? = some o ∧ l = trEdges o := by
    intro i l hi
    rw [List.getElem?_map, Option.map_eq_some_iff] at hi
    obtain ⟨o, ho, rfl⟩ := hi
    exact ⟨o, by simpa using ho, rfl⟩
   have := before_in (es := ops.toList.map trEdges) (S := fun i => listed.getD i false) (fun i l hi e he => by obtain ⟨o, ho, rfl⟩ := hes i l hi; exact hb i o ho e he)
    (fun i l hS hi e he => by obtain ⟨o, ho, rfl⟩ := hes i l hi; exact hc i o hS ho e he) x (trEdges ops[x]) y
    (by rw [List.getElem?_map, show ops.toList[x]? = some ops[x] by simp]; rfl) (ready_edges h.1 ho) hbit
   have hy2 := (hnd.2 y hy).2
   rw [set_listed (by omega)] at hy2
   simp only [Bool.or_eq_false_iff] at hy2
   rw [this.1] at hy2
   cases hy2.2
theorem ordOK_filter {bs : List Nat} {p : Nat → Bool} : ∀ {l : List Nat}, ordOK bs l = true → ordOK bs (l.filter p) = true
 | [], _ => rfl
 | x :: r, h => by
  simp only [ordOK, Bool.and_eq_true, List.all_eq_true] at h
  rw [List.filter_cons]
  split
  ·simp only [ordOK, Bool.and_eq_true, List.all_eq_true]
   exact ⟨fun y hy => h.1 y (List.mem_filter.1 hy).1, ordOK_filter h.2⟩
  ·exact ordOK_filter h.2
theorem perms_mem : ∀ {l' l : List Nat} {n : Nat}, l'.Perm l → l.length ≤ n → l' ∈ perms n l
 | [], l, n, h, _ => by
  have : l = [] := h.nil_eq.symm
  subst this
  cases n <;> simp [perms]
 | x :: r, l, n, h, hn => by
  obtain ⟨h1, h2⟩ := List.cons_perm_iff_perm_erase.1 h
  cases l with
  | nil => cases h1
  | cons y s =>
   cases n with
   | zero => simp at hn
   | succ n =>
    simp only [perms, List.mem_flatMap]
    refine ⟨x, h1, List.mem_map.2 ⟨r, perms_mem h2 ?_, rfl⟩⟩
    rw [List.length_erase_of_mem h1]
    simp at hn ⊢
    exact hn
theorem allSome_mem {α : Type} : ∀ {l : List (Option α)} {r : List α} {x : Option α}, allSome l = some r → x ∈ l → ∃ y ∈ r, x = some y
 | [], _, _, _, hx => by cases hx
 | none :: _, _, _, h, _ => by simp [allSome] at h
 | some z :: l, r, x, h, hx => by
  simp only [allSome] at h
  split at h
  ·rename_i l' hl
   cases h
   rcases List.mem_cons.1 hx with rfl | hx
   ·exact ⟨z, List.mem_cons_self .., rfl⟩
   ·obtain ⟨y, h1, h2⟩ := allSome_mem hl hx
    exact ⟨y, List.mem_cons_of_mem _ h1, h2⟩
  ·cases h
structure TxOK (n : Nat) (tx : List Nat) : Prop where
 len : tx.length = n
 mem : ∀ i, i < n → i ∈ tx
 pos : ∀ k, k < n → tx.idxOf (tx.getD k 0) = k
 lt : ∀ k, k < n → tx.getD k 0 < n
theorem txOK_spec {n : Nat} {tx : List Nat} (h : txOK n tx = true) : TxOK n tx := by
 simp only [txOK, Bool.and_eq_true, beq_iff_eq, List.all_eq_true, List.mem_range, decide_eq_true_eq, List.contains_iff_mem] at h
 exact ⟨h.1.1, h.1.2, fun k hk => (h.2 k hk).1, fun k hk => (h.2 k hk).2⟩
theorem TxOK.back {n i : Nat} {tx : List Nat} (h : TxOK n tx) (hi : i < n) : tx.idxOf i < n ∧ tx[tx.idxOf i]? = some i := by
 have hlt := List.idxOf_lt_length_of_mem (h.mem i hi)
 refine ⟨by rw [h.len] at hlt; exact hlt, ?_⟩
 rw [List.getElem?_eq_getElem hlt, List.getElem_idxOf]
theorem TxOK.inj {n i j : Nat} {tx : List Nat} (h : TxOK n tx) (hi : i < n) (hj : j < n) (e : tx.idxOf i = tx.idxOf j) : i = j := by
 have h1 := (h.back hi).2
 have h2 := (h.back hj).2
 rw [e, h2] at h1
 exact (Option.some.inj h1).symm
variable {tx pi : List Nat}
theorem permOps_size (ht : TxOK ops.size tx) : (permOps ops tx pi).size = ops.size := by simp [permOps, ht.len]
theorem permOps_get (ht : TxOK ops.size tx) {i : Nat} {o : Oper} (ho : ops[i]? = some o) :
  (permOps ops tx pi)[tx.idxOf i]? = some { o with after := ((trEdges o ++ (if pi.contains i then pi.takeWhile (· != i) else [])).map fun e => (⟨tx.idxOf e, .data⟩ : Edge)).toArray, guard := o.guard.map fun g => (tx.idxOf g.1, g.2) } := by
 have hio : i < ops.size := (Array.getElem?_eq_some_iff.1 ho).1
 have := (ht.back hio).2
 simp only [permOps, List.getElem?_toArray, List.getElem?_map, this, Option.map_some, permOp, ho]
theorem permOps_inv (ht : TxOK ops.size tx) {k : Nat} {o' : Oper} (h : (permOps ops tx pi)[k]? = some o') : ∃ i o, i < ops.size ∧ k = tx.idxOf i ∧ ops[i]? = some o := by
 have hk : k < ops.size := by rw [← permOps_size (pi := pi) ht]; exact (Array.getElem?_eq_some_iff.1 h).1
 have hlt := ht.lt k hk
 exact ⟨tx.getD k 0, _, hlt, (ht.pos k hk).symm, Array.getElem?_eq_getElem hlt⟩
theorem perm_yielded (ht : TxOK ops.size tx) {tmps : Array Value} {j : Nat} : yielded (permOps ops tx pi) tmps (tx.idxOf j) = yielded ops tmps j := by
 unfold yielded
 by_cases hj : j < ops.size
 ·rw [permOps_get ht (Array.getElem?_eq_getElem hj), Array.getElem?_eq_getElem hj]; rfl
 ·have h1 : ops[j]? = none := Array.getElem?_eq_none (by omega)
  have h2 : (permOps ops tx pi)[tx.idxOf j]? = none := by
   cases h : (permOps ops tx pi)[tx.idxOf j]? with
   | none => rfl
   | some o' =>
    exfalso
    obtain ⟨i, o, hi, e, -⟩ := permOps_inv ht h
    have hm := ht.mem i hi
    have hlt := List.idxOf_lt_length_of_mem hm
    rw [← e] at hlt
    have : j ∈ tx := List.idxOf_lt_length_iff.1 hlt
    obtain ⟨k, hk, he⟩ := List.getElem_of_mem this
    have := ht.lt k (by rw [← ht.len]; exact hk)
    rw [List.getD_eq_getElem?_getD, List.getElem?_eq_getElem hk, he] at this
    simp at this
    omega
  rw [h1, h2]
theorem perm_wanted (ht : TxOK ops.size tx) {o o' : Oper} {tmps : Array Value} (h : o'.guard = o.guard.map fun g => (tx.idxOf g.1, g.2)) :
  Region.wanted o' (yielded (permOps ops tx pi) tmps) = Region.wanted o (yielded ops tmps) := by
 unfold Region.wanted
 rw [h]
 cases o.guard with
 | none => rfl
 | some g => simp only [Option.map_some, perm_yielded ht]
theorem perm_run (ht : TxOK ops.size tx) {Q : Exit → Act → World → Prop} : ∀ {l : List Nat} {a : Act} {w : World}, (∀ i ∈ l, i < ops.size) → wpOpsIn F 0 P (permOps ops tx pi) Q (l.map fun i => tx.idxOf i) a w → wpOpsIn F 0 P ops Q l a w
 | [], _, _, _, h => h
 | i :: l, a, w, hl, h => by
  have hi := hl i (List.mem_cons_self ..)
  have ho : ops[i]? = some ops[i] := Array.getElem?_eq_getElem hi
  have ho' := permOps_get (pi := pi) ht ho
  rw [List.map_cons, wpOpsIn_cons] at h
  rw [wpOpsIn_cons]
  unfold wpOpIn at h ⊢
  rw [ho'] at h
  rw [ho]
  simp only at h ⊢
  rw [perm_wanted ht rfl] at h
  split at h
  ·rename_i hw
   rw [if_pos hw]
   exact Oper.wpIn_mono (fun a w h' => perm_run ht (fun j hj => hl j (List.mem_cons_of_mem _ hj)) h') h
  ·rename_i hw
   rw [if_neg hw]
   exact ⟨h.1, perm_run ht (fun j hj => hl j (List.mem_cons_of_mem _ hj)) h.2⟩
theorem binds_data {e : Nat} : Region.binds .any ⟨e, .data⟩ = true := rfl
theorem perm_lin (hb : Back ops) (ht : TxOK ops.size tx) (hpi : ∀ j ∈ pi, j < ops.size) : ∀ {l : List Nat} {listed listed' : Array Bool}, listed.size = ops.size → listed'.size = ops.size → (∀ i, i < ops.size → listed'.getD (tx.idxOf i) false = listed.getD i false) →
  (∀ pre i post, l = pre ++ i :: post → i ∈ pi → ∀ j ∈ pi.takeWhile (· != i), listed.getD j false = true ∨ j ∈ pre) → Lin ops listed l → Lin (permOps ops tx pi) listed' (l.map fun i => tx.idxOf i)
 | [], listed, listed', hsz, hsz', hsame, hch, h => by
  have h' : Region.ready .any ops listed = [] := h
  show Region.ready .any (permOps ops tx pi) listed' = []
  refine List.eq_nil_iff_forall_not_mem.2 fun k hk => ?_
  obtain ⟨h1, o', ho', hed⟩ := mem_ready.1 hk
  obtain ⟨i, o, hi, rfl, ho⟩ := permOps_inv ht ho'
  rw [permOps_get ht ho] at ho'
  cases ho'
  have hk2 := (ready_out (by rw [permOps_size ht]; exact hsz') hk).2
  rw [hsame i hi] at hk2
  have : i ∈ Region.ready .any ops listed := mem_ready.2 ⟨by
   have hl2 : i < listed.size := by omega
   simp [Array.getD, hl2] at hk2 ⊢; exact hk2, o, ho, fun e hea hbd => by
   have hel : e.on ∈ trEdges o := List.mem_map.2 ⟨e, List.mem_filter.2 ⟨by simpa using hea, hbd⟩, rfl⟩
   have hlt : e.on < ops.size := by have := hb i o ho e.on hel; omega
   have := hed ⟨tx.idxOf e.on, .data⟩ (by simp only [List.mem_toArray, List.mem_map, List.mem_append]; exact ⟨e.on, .inl hel, rfl⟩) binds_data
   rw [hsame _ hlt] at this
   exact this⟩
  rw [h'] at this
  cases this
 | i :: l, listed, listed', hsz, hsz', hsame, hch, h => by
  obtain ⟨h1, h2⟩ := ready_out hsz h.1
  have ho : ops[i]? = some ops[i] := Array.getElem?_eq_getElem h1
  have hpos := (ht.back h1).1
  refine ⟨mem_ready.2 ⟨?_, _, permOps_get ht ho, fun e hea _ => ?_⟩, perm_lin hb ht hpi (by simpa using hsz) (by simpa using hsz') (fun j hj => ?_) (fun pre j post hl hj k hk => ?_) h.2⟩
  ·have hl2 : tx.idxOf i < listed'.size := by omega
   have := hsame i h1
   rw [h2] at this
   simp [Array.getD, hl2] at this ⊢
   exact this
  ·simp only [List.mem_toArray, List.mem_map, List.mem_append] at hea
   obtain ⟨x, hx, rfl⟩ := hea
   rcases hx with hx | hx
   ·rw [hsame x (by have := hb i _ ho x hx; omega)]
    exact ready_edges h.1 ho x hx
   ·split at hx
    ·rename_i hc
     rw [List.contains_iff_mem] at hc
     have hxpi : x ∈ pi := (List.takeWhile_sublist _).subset hx
     rw [hsame x (hpi x hxpi)]
     rcases hch [] i l rfl hc x hx with g | g
     ·exact g
     ·cases g
    ·cases hx
  ·show (listed'.setIfInBounds (tx.idxOf i) true).getD (tx.idxOf j) false = _
   rw [set_listed (i := tx.idxOf i) (by omega), set_listed (by omega), hsame j hj]
   congr 1
   by_cases hji : j = i
   ·simp [hji]
   ·have : tx.idxOf j ≠ tx.idxOf i := fun e => hji (ht.inj hj h1 e)
    simp [hji, this]
  ·rw [set_listed (by omega)]
   rcases hch (i :: pre) j post (by rw [hl]; rfl) hj k hk with g | g
   ·exact .inl (by rw [g]; simp)
   ·rcases List.mem_cons.1 g with rfl | g
    ·exact .inl (by simp)
    ·exact .inr g
end
theorem alt_sound (hm : P.follows .mixedOrders = true) (hF : FOK F) (hI : InvOK n0 Inv) {ops : Array Oper} {ss : List IS} {ex : List Nat} {ls : List (List (IS × List Nat))} (htr : trSs P N ex ops ops.toList = some ss)
  (hal : altsOf P N ex ops ss (ops.toList.map trEdges) (befores (ops.toList.map trEdges) []) = some ls) {id : Nat} {K : Kt} {Q : Exit → Act → World → Prop} (hQ : ∀ a w, Lift Inv N K a w → Q .normal a w) {a : Act} {w : World}
  (hl : Lift Inv N (fun md env σ => ∀ l ∈ ls, abDs P noY n0 l 0 [] K md env σ) a w) : (Code.region id ops true).wpIn F 0 P Q a w := by
 refine wpIn_region_draw fun t => ?_
 simp only [Region.schedule, hm, Bool.true_or, if_true, Region.linearise]
 obtain ⟨hlen, -⟩ := trSs_get htr
 have hn : ss.length = ops.size := by simpa using hlen
 have hlin := lin_go (ops := ops) ops.size t (Array.replicate ops.size false) (by simp) (by
  have := List.countP_le_length (p := fun i => !(Array.replicate ops.size false).getD i true) (l := List.range ops.size)
  simp only [List.length_range] at this
  exact this)
 generalize Region.linearise.go .any ops ops.size t (Array.replicate ops.size false) [] = l at *
 unfold altsOf at hal
 split at hal
 ·rename_i hbk
  have hb : Back ops := by
   intro i o ho e he
   simp only [backOK, List.all_eq_true, List.mem_range, decide_eq_true_eq] at hbk
   have hio : i < ops.size := (Array.getElem?_eq_some_iff.1 ho).1
   refine hbk i (by simpa using hio) e ?_
   rw [List.getD_eq_getElem?_getD, List.getElem?_map, show ops.toList[i]? = some o by simpa using ho]
   exact he
  have h0 : ∀ i, (Array.replicate ops.size false).getD i false = false := by
   intro i
   by_cases hlt : i < ops.size <;> simp [Array.getD, hlt]
  obtain ⟨hnd, hmem⟩ := lin_mem (by simp) hlin
  have hall : ∀ i, i < ops.size → i ∈ l := fun i hi => by
   rcases lin_all hb (by simp) hlin i hi with h | h
   ·rw [h0] at h; cases h
   ·exact h
  have hperm : l.Perm (List.range ops.size) := (List.perm_ext_iff_of_nodup hnd List.nodup_range).2 fun i => by
   rw [List.mem_range]; exact ⟨fun h => (hmem i h).1, hall i⟩
  have hord := lin_ord hb (by simp) (fun i o h => by rw [h0] at h; cases h) hlin
  have hpp : (l.filter (isLoud ss)).Perm ((List.range ss.length).filter (isLoud ss)) := by rw [hn]; exact hperm.filter _
  have hin := perms_mem hpp (Nat.le_refl _)
  obtain ⟨alt, ha1, ha2⟩ := allSome_mem hal (List.mem_map.2 ⟨l.filter (isLoud ss), List.mem_filter.2 ⟨hin, ordOK_filter hord⟩, rfl⟩)
  generalize hpi : l.filter (isLoud ss) = pi at *
  generalize greedy (ops.toList.map trEdges) ops.size ((List.range ss.length).filter fun i => !isLoud ss i) pi [] = tx at *
  unfold altOf at ha2
  split at ha2
  ·rename_i htx
   have ht := txOK_spec htx
   split at ha2
   ·rename_i ss' hss'
    dsimp only at ha2
    split at ha2
    ·rename_i hok
     simp only [Option.some.injEq] at ha2
     have hl' : Lift Inv N (abDs P noY n0 alt 0 [] K) a w := by
      obtain ⟨C, md, env, σ, h1, h2, h3, h4, h5, h6⟩ := hl
      exact ⟨C, md, env, σ, h1, h2, h3, h4, h5, h6 alt ha1⟩
     rw [← ha2] at hl'
     have hrun := drw_any hF hI hss' hok hQ hl'
     rw [permOps_size ht] at hrun
     refine perm_run (pi := pi) ht (fun i hi => (hmem i hi).1) (any_lin hrun (perm_lin hb ht (fun j hj => by
       rw [← hpi] at hj; exact (hmem j (List.mem_filter.1 hj).1).1) (by simp) (by simp) (fun i hi => by rw [h0, h0]) (fun pre i post hE hi j hj => ?_) hlin) ?_)
     ·right
      have hni : i ∉ pre := by
       rw [hE] at hnd
       intro h
       exact (List.nodup_append.1 hnd).2.2 i h i (List.mem_cons_self ..) rfl
      have hil : isLoud ss i = true := by rw [← hpi] at hi; exact (List.mem_filter.1 hi).2
      rw [← hpi, hE, List.filter_append, List.filter_cons, if_pos hil, List.takeWhile_append_of_pos (fun x hx => by
       have : x ≠ i := by rintro rfl; exact hni (List.mem_filter.1 hx).1
       simp [this])] at hj
      rcases List.mem_append.1 hj with h | h
      ·exact (List.mem_filter.1 h).1
      ·simp [List.takeWhile_cons] at h
     ·rw [List.length_map]
      have := hperm.length_eq
      simp only [List.length_range] at this
      omega
    ·cases ha2
   ·cases ha2
  ·cases ha2
 ·cases hal
end
end Go.Ab
end
section
namespace Go.Ab
open Go
structure ExtA (S : Nat → Prop) (C C' : Cx) : Prop where
 os : C'.w.os = C.w.os
 tape : C'.w.tape = C.w.tape
 output : C'.w.output = C.w.output
 size : C.w.heap.size ≤ C'.w.heap.size
 frame : ∀ b, b < C.w.heap.size → (∀ i p : Nat, C.ρ[i]? ≠ some (b, p)) → ¬ S b → C'.w.heap[b]? = C.w.heap[b]?
 z : ∀ b, C.Z b → C'.Z b
 nz : ∀ b, C'.Z b → C.Z b ∨ C.w.heap.size ≤ b
 nρ : ∀ (i b p : Nat), C'.ρ[i]? = some (b, p) → (∃ q, C.ρ[i]? = some (b, q)) ∨ C.w.heap.size ≤ b
 vs : ∀ (i v : Nat), C.vs[i]? = some v → ∃ v', C'.vs[i]? = some v' ∧ v ≤ v'
 same : ∀ (i v b p : Nat), C.vs[i]? = some v → C'.vs[i]? = some v → C.ρ[i]? = some (b, p) → C'.ρ[i]? = some (b, p) ∧
  ∀ cc t, C.w.heap[b]? = some (.cells cc t (0, 0)) → ∃ cc', C'.w.heap[b]? = some (.cells cc' t (0, 0)) ∧ cc'.size = cc.size
theorem Ext.toA {C C' : Cx} (h : Ext C C') (S : Nat → Prop) : ExtA S C C' :=
 ⟨h.os, h.tape, h.output, h.size, fun b hb hn _ => h.frame b hb hn, h.z, h.nz, h.nρ, h.vs, h.same⟩
theorem ExtA.toExt {C C' : Cx} {S : Nat → Prop} (h : ExtA S C C') (hS : ∀ b, S b → C.w.heap.size ≤ b) : Ext C C' :=
 ⟨h.os, h.tape, h.output, h.size, fun b hb hn => h.frame b hb hn (fun hs => by have := hS b hs; omega), h.z, h.nz, h.nρ, h.vs, h.same⟩
theorem ExtA.trans {A B D : Cx} {S T : Nat → Prop} (h : ExtA S A B) (k : ExtA T B D) (hT : ∀ b, T b → S b ∨ A.w.heap.size ≤ b) : ExtA S A D where
 os := k.os.trans h.os
 tape := k.tape.trans h.tape
 output := k.output.trans h.output
 size := Nat.le_trans h.size k.size
 frame := fun b hb hn hs => by
  have h1 := h.frame b hb hn hs
  refine (k.frame b (Nat.lt_of_lt_of_le hb h.size) (fun i p hi => ?_) (fun ht => ?_)).trans h1
  ·rcases h.nρ i b p hi with ⟨q, h2⟩ | h2
   ·exact hn i q h2
   ·omega
  ·rcases hT b ht with h2 | h2
   ·exact hs h2
   ·omega
 z := fun b hb => k.z b (h.z b hb)
 nz := fun b hb => by
  rcases k.nz b hb with h1 | h1
  ·exact h.nz b h1
  ·exact .inr (Nat.le_trans h.size h1)
 nρ := fun i b p hi => by
  rcases k.nρ i b p hi with ⟨q, h1⟩ | h1
  ·exact h.nρ i b q h1
  ·exact .inr (Nat.le_trans h.size h1)
 vs := fun i v hv => by
  obtain ⟨v1, h1, l1⟩ := h.vs i v hv
  obtain ⟨v2, h2, l2⟩ := k.vs i v1 h1
  exact ⟨v2, h2, Nat.le_trans l1 l2⟩
 same := fun i v b p hv hv' hb => by
  obtain ⟨v1, h1, l1⟩ := h.vs i v hv
  obtain ⟨v2, h2, l2⟩ := k.vs i v1 h1
  rw [hv'] at h2
  cases h2
  obtain rfl : v1 = v := by omega
  obtain ⟨p1, q1⟩ := h.same i v1 b p hv h1 hb
  obtain ⟨p2, q2⟩ := k.same i v1 b p h1 hv' p1
  refine ⟨p2, fun cc t hc => ?_⟩
  obtain ⟨cc1, hc1, e1⟩ := q1 cc t hc
  obtain ⟨cc2, hc2, e2⟩ := q2 cc1 t hc1
  exact ⟨cc2, hc2, e2.trans e1⟩
theorem ExtA.refl (S : Nat → Prop) (C : Cx) : ExtA S C C := (Ext.refl C).toA S
theorem ExtA.len {C C' : Cx} {S : Nat → Prop} (h : ExtA S C C') : C.vs.length ≤ C'.vs.length := by
 by_cases h0 : C.vs.length = 0
 ·omega
 ·have hlt : C.vs.length - 1 < C.vs.length := by omega
  obtain ⟨v', h1, -⟩ := h.vs (C.vs.length - 1) _ (List.getElem?_eq_getElem hlt)
  have := (List.getElem?_eq_some_iff.1 h1).1
  omega
theorem ExtA.apart {C C' : Cx} {S : Nat → Prop} (h : ExtA S C C') {b : Nat} (hb : b < C.w.heap.size) (hρ : ∀ i p : Nat, C.ρ[i]? ≠ some (b, p)) (hz : ¬ C.Z b) :
  b < C'.w.heap.size ∧ (∀ i p : Nat, C'.ρ[i]? ≠ some (b, p)) ∧ ¬ C'.Z b :=
 ⟨Nat.lt_of_lt_of_le hb h.size, fun i p hi => by
  rcases h.nρ i b p hi with ⟨q, hq⟩ | hq
  ·exact hρ i q hq
  ·omega, fun hz' => by
  rcases h.nz b hz' with hq | hq
  ·exact hz hq
  ·omega⟩
theorem VR.extA {C C' : Cx} {S : Nat → Prop} (e : ExtA S C C') (wf : Wf C) (hS : ∀ b, S b → ¬ C.Z b) {x : V} {c : Value} (h : VR C x c) : VR C' x c := by
 have zs : ∀ {b : Nat}, C.Z b → C'.w.heap[b]? = C.w.heap[b]? := fun {b} hz =>
  e.frame b (wf.zlt b hz) (fun i p hi => wf.zρ i b p hi hz) (fun hs => hS b hs hz)
 induction h with
 | u c => exact .u c
 | b x => exact .b x
 | i k n => exact .i k n
 | str s => exact .str s
 | np => exact .np
 | p id ver off blk bs h hv =>
  obtain ⟨v', hv', l⟩ := e.vs id ver hv
  by_cases he : v' = ver
  ·subst he
   exact .p id v' off blk bs (e.same id v' blk bs hv hv' h).1 hv'
  ·exact .p0 id ver off v' _ rfl hv' (by omega)
 | p0 id ver off v c h1 hv hl =>
  obtain ⟨v', hv', l⟩ := e.vs id v hv
  exact .p0 id ver off v' c h1 hv' (by omega)
 | sp cells off blk base cs hz hl h1 hc hv ih =>
  refine .sp cells off blk base cs (e.z _ hz) hl h1 (fun j c hj => ?_) (fun j x c hx hc' => ih j x c hx hc')
  rw [cell?_of_heap (w := C.w) (zs hz)]
  exact hc j c hj
 | s id ver off len es blk bs at_ cap cc t h hv hlc hb hs ha =>
  obtain ⟨v', hv', l⟩ := e.vs id ver hv
  by_cases he : v' = ver
  ·subst he
   obtain ⟨p1, q1⟩ := e.same id v' blk bs hv hv' h
   obtain ⟨cc', hc', e'⟩ := q1 cc t hb
   exact .s id v' off len es blk bs at_ cap cc' t p1 hv' hlc hc' (by omega) ha
  ·exact .s0 id ver off len es v' _ rfl hv' (by omega)
 | s0 id ver off len es v c h1 hv hl =>
  obtain ⟨v', hv', l⟩ := e.vs id v hv
  exact .s0 id ver off len es v' c h1 hv' (by omega)
 | ss0 a cap => exact .ss0 a cap
 | ssn a => exact .ssn a
 | ss cells len full blk base cap cs hz hl h1 hc hv hlc hf ih =>
  refine .ss cells len full blk base cap cs (e.z _ hz) hl h1 (fun j c hj => ?_) (fun j x c hx hc' => ih j x c hx hc') hlc hf
  rw [cell?_of_heap (w := C.w) (zs hz)]
  exact hc j c hj
 | nm => exact .nm
 | m id blk bs h hv =>
  obtain ⟨v', hv', l⟩ := e.vs id 0 hv
  by_cases he : v' = 0
  ·subst he
   exact .m id blk bs (e.same id 0 blk bs hv hv' h).1 hv'
  ·exact .m0 id v' _ rfl hv' (by omega)
 | m0 id v c h1 hv hl =>
  obtain ⟨v', hv', l⟩ := e.vs id v hv
  exact .m0 id v' c h1 hv' (by omega)
 | sm l blk es clock hz hb hl hk hv ihk ihv =>
  exact .sm l blk es clock (e.z _ hz) ((zs hz).trans hb) hl ihk ihv
 | nf => exact .nf
 | f fn first cap cf cc hl1 hl2 h1 h2 ih1 ih2 => exact .f fn first cap cf cc hl1 hl2 ih1 ih2
 | agg cells cs hl h1 hv ih => exact .agg cells cs hl h1 ih
 | tup vs cs hl hv ih => exact .tup vs cs hl ih
theorem truncA {C0 C : Cx} {S : Nat → Prop} {n : Nat} (h : ExtA S C0 C) (wf0 : Wf C0) (hn : C0.vs.length ≤ n) : ExtA S C0 (C.trunc n) where
 os := h.os
 tape := h.tape
 output := h.output
 size := h.size
 frame := h.frame
 z := fun b hb => .inl (h.z b hb)
 nz := fun b hb => by
  rcases hb with hb | ⟨i, p, hi, hp⟩
  ·exact h.nz b hb
  ·rcases h.nρ i b p hp with ⟨q, hq⟩ | hs
   ·have := (List.getElem?_eq_some_iff.1 hq).1
    have := wf0.len
    omega
   ·exact .inr hs
 nρ := fun i b p hi => h.nρ i b p (get_take hi).2
 vs := fun i v hv => by
  obtain ⟨v', h1, h2⟩ := h.vs i v hv
  have := (List.getElem?_eq_some_iff.1 hv).1
  exact ⟨v', take_get (by omega) h1, h2⟩
 same := fun i v b p hv hv' hb => by
  have := (List.getElem?_eq_some_iff.1 hv).1
  obtain ⟨h1, h2⟩ := h.same i v b p hv (get_take hv').2 hb
  exact ⟨take_get (by omega) h1, h2⟩
theorem R.put {C : Cx} {σ : List O} (h : R C σ) {l : Nat} (hl : l < C.w.heap.size) (hρ : ∀ i p : Nat, C.ρ[i]? ≠ some (l, p)) (hz : ¬ C.Z l) (o : Obj) :
  R (C.world (C.w.putObj l o)) σ ∧ ExtA (· = l) C (C.world (C.w.putObj l o)) ∧ (C.w.putObj l o).heap[l]? = some o := by
 have hne : ∀ b, b ≠ l → (C.w.putObj l o).heap[b]? = C.w.heap[b]? := fun b hb => World.putObj_heap_other hb
 have e : ExtA (· = l) C (C.world (C.w.putObj l o)) := {
  os := rfl, tape := rfl, output := rfl
  size := by simp [Cx.world]
  frame := fun b hb hn hs => hne b hs
  z := fun b hb => hb, nz := fun b hb => .inl hb, nρ := fun i b p hi => .inl ⟨p, hi⟩, vs := fun i v hv => ⟨v, hv, Nat.le_refl _⟩
  same := fun i v b p hv hv' hb => ⟨hb, fun cc t hc => ⟨cc, (hne b (fun hE => hρ i p (hE ▸ hb))).trans hc, rfl⟩⟩ }
 refine ⟨⟨world_wf h.wf (by simp), h.len, h.ver, fun id x blk bs hx hb => ?_⟩, e, World.putObj_heap_same hl⟩
 have hvr : ∀ {x : V} {c : Value}, VR C x c → VR (C.world (C.w.putObj l o)) x c := fun hv => hv.extA e h.wf (fun b hb => hb ▸ hz)
 have hh : (C.w.putObj l o).heap[blk]? = C.w.heap[blk]? := hne blk (fun hE => hρ id bs (hE ▸ hb))
 have hOR := h.obj id x blk bs hx hb
 cases hOR with
 | row ver cells cc t hb hl h1 hv => exact .row ver cells cc t (hh.trans hb) hl h1 (fun j x c a b => hvr (hv j x c a b))
 | map es clock ces hb hl hv => exact .map es clock ces (hh.trans hb) hl (fun j b k v en a c => let ⟨x, y, z⟩ := hv j b k v en a c; ⟨x, hvr y, hvr z⟩)
 | it mid since seen stepped mb h0 hm hb => exact .it mid since seen stepped mb h0 (hvr hm) (hh.trans hb)
 | dead ver => exact .dead ver
def RfnOK (It : ItTy) (P : Program) (F : Fence) (Inv : Md → Cx → List Deferred → Prop) : Prop :=
 (∃ f first cap N X Pre, It f first cap N X Pre) → ∀ (md : Md) (C : Cx) (D : List Deferred) (fn : FuncId) (tmps : Array Value) (ps : Array Tmp) (asg body : Code), Wf C → Inv md C D →
  ∃ l mark w1 dd, (Instr.enterLoop fn tmps ps asg body F.round).run P C.w = .ok (l, mark) w1 ∧ w1.os = C.w.os ∧ w1.tape = C.w.tape ∧ w1.output = C.w.output ∧ C.w.heap.size ≤ l ∧ l < w1.heap.size ∧
   (∀ b, b < C.w.heap.size → w1.heap[b]? = C.w.heap[b]?) ∧ w1.heap[l]? = some (.loop { state := .ready, pending := none, fn := fn, tmps := tmps, params := ps, assign := asg, body := body, defers := dd }) ∧
   ∀ C', ExtA (· = l) (C.world w1) C' → Inv md C' (mark ++ D)
def ItOK (P : Program) (It : ItTy) : Prop :=
 ∀ (f : FuncId) (first cap : List V) (N : Nat) (X : Nat → List V → List O → List O → Prop) (Pre : List O → Prop), It f first cap N X Pre →
  (∃ fn, P.funcs[f]? = some fn ∧ fn.name ≠ "runtime.NumGoroutine" ∧ fn.body.isSome = true) ∧
  ∀ (Inv : Md → Cx → List Deferred → Prop) (Y : Yield) (J Dn : Nat → List O → Prop) (C : Cx) (σ : List O) (l : Nat) (cargs : List Value), InvOK σ.length Inv → YOK P Fence.wide Inv Y → R C σ → Inv none C [] → J 0 σ → (∀ i σ, J i σ → Pre σ) →
   VRl C (first ++ [V.f (.yield l) [] []] ++ cap) cargs →
   (∀ i x σ' g' (Kont : Md → V → List O → Prop), i < N → X i x σ' g' → J i σ' → (∀ σ'', J (i + 1) σ'' → Kont none (.b true) σ'') → (∀ j σ'', Dn j σ'' → Kont (some j) (.b false) σ'') → Y l x (σ' ++ g') Kont) →
   CallsIn Fence.wide 0 P f cargs.toArray C.w (fun e w' => ∃ C' cv md σ', C'.w = w' ∧ e = .returned cv ∧ R C' σ' ∧ Inv md C' [] ∧ (match md with | none => J N σ' | some j => Dn j σ'))
theorem exitK_const {env env' : Env} {md : Md} {σ : List O} {id : Nat} : ∀ {E : List (Nat × Kt)}, exitK (constE env E) id md env' σ = exitK E id md env σ
 | [] => rfl
 | (i, K) :: r => by
  simp only [constE, exitK, constK]
  split
  ·rfl
  ·exact exitK_const
section
variable {P : Program} {F : Fence} {n : Nat} {a : Act} {w : World} {Q : Exit → Act → World → Prop}
theorem wpIn_scope {c : Code} (h : c.wpIn F n P (Exit.noGoto Q) a w) : (Code.scope c).wpIn F n P Q a w := by
 intro b k cs hro hb hr
 have h0 : (lone (b.atR a (.code (.scope c) :: k)) cs w).fenced P F := fenced_calm hb hr rfl
 have s0 : step P (lone (b.atR a (.code (.scope c) :: k)) cs w) = .next (lone (b.atR a (.code c :: .inScope c :: k)) cs w) := step_lone_go (by simp [stepG, stepG.exec, Frame.atR])
 have s1 : ∀ a w, step P (lone (b.atR a (.inScope c :: k)) cs w) = .next (lone (b.atR a k) cs w) := fun a w => step_lone_go (by simp [stepG, stepG.exec, Frame.atR])
 obtain ⟨e, a₁, w₁, hq, harr⟩ := h b (.inScope c :: k) cs hro hb hr
 cases e with
 | normal => exact ⟨.normal, a₁, w₁, hq, .head h0 s0 (StepsIn.trans harr (.one (fenced_calm hb hr rfl) (s1 _ _)))⟩
 | exit id =>
  have hx : exitTo id (.inScope c :: k) = exitTo id k := by simp [exitTo]
  exact ⟨.exit id, a₁, w₁, hq, fun k' hk => .head h0 s0 (harr.1 k' (by rw [hx]; exact hk)),
   fun hr' hk => let ⟨k₁, h1, h2⟩ := harr.2 hr' (by rw [hx]; exact hk); ⟨k₁, h1, .head h0 s0 h2⟩⟩
 | goto l => exact hq.elim
 | ret => exact ⟨_, a₁, w₁, hq, .of_steps (.one h0 s0) harr⟩
 | panic ch => exact ⟨_, a₁, w₁, hq, .of_steps (.one h0 s0) harr⟩
 | outgrown => exact ⟨_, a₁, w₁, hq, .of_steps (.one h0 s0) harr⟩
end
end Go.Ab
end
section
namespace Go.Ab
open Go
theorem least {p : Nat → Prop} (h : ∃ m, p m) : ∃ m, p m ∧ ∀ k, p k → m ≤ k := by
 obtain ⟨m, hm⟩ := h
 induction m using Nat.strongRecOn with
 | _ m ih =>
  by_cases hk : ∃ k, k < m ∧ p k
  ·obtain ⟨k, h1, h2⟩ := hk
   exact ih k h1 h2
  ·exact ⟨m, hm, fun k hp => by
    by_cases hlt : m ≤ k
    ·exact hlt
    ·exact absurd ⟨k, by omega, hp⟩ hk⟩
theorem wpIn_loop_ex {F : Fence} {n : Nat} {P : Program} {Q : Exit → Act → World → Prop} {a : Act} {w : World} {c : Code} (I : Nat → Act → World → Prop) (h₀ : ∃ m, I m a w)
  (round : ∀ m a w, I m a w → c.wpIn F n P (Exit.then (fun a' w' => ∃ m', m' < m ∧ I m' a' w') Q) a w) : (Code.loop c).wpIn F n P Q a w := by
 have hμ : ∃ μ : Act → World → Nat, ∀ a w, (∃ m, I m a w) → I (μ a w) a w ∧ ∀ k, I k a w → μ a w ≤ k := by
  classical
  refine ⟨fun a w => if h : ∃ m, I m a w then Classical.choose (least h) else 0, fun a w h => ?_⟩
  simp only [dif_pos h]
  exact Classical.choose_spec (least h)
 obtain ⟨μ, hμ⟩ := hμ
 refine wpIn_loop (fun a w => ∃ m, I m a w) μ h₀ (fun a w h => ?_)
 obtain ⟨h1, h2⟩ := hμ a w h
 refine wpIn_mono (round (μ a w) a w h1) (fun e a' w' hq => ?_)
 cases e with
 | normal =>
  obtain ⟨m', hlt, hm'⟩ := hq
  exact ⟨⟨m', hm'⟩, Nat.lt_of_le_of_lt ((hμ a' w' ⟨m', hm'⟩).2 m' hm') hlt⟩
 | exit id => exact hq
 | goto l => exact hq
 | ret => exact hq
 | panic ch => exact hq
 | outgrown => exact hq
theorem foldl_puts_size {ps : List Nat} : ∀ {cs : List Value} {t : Array Value}, ((ps.zip cs).foldl (fun t (p : Nat × Value) => t.setIfInBounds p.1 p.2) t).size = t.size := by
 induction ps with
 | nil => intro cs t; rfl
 | cons p ps ih =>
  intro cs t
  cases cs with
  | nil => rfl
  | cons c cs =>
   simp only [List.zip_cons_cons, List.foldl_cons]
   rw [ih]; simp
theorem env_puts {C : Cx} {N : Nat} : ∀ {ps : List Nat} {x : List V} {cs : List Value} {env : Env} {t : Array Value}, VRl C x cs → ps.all (fun p => decide (p < N)) = true → N ≤ t.size → (∀ s, VR C (get env s) (t.getD s undef)) →
  ∀ s, VR C (get (puts env ps x) s) (((ps.zip cs).foldl (fun t (p : Nat × Value) => t.setIfInBounds p.1 p.2) t).getD s undef)
 | [], x, cs, env, t, _, _, _, he, s => by
  cases x <;> exact he s
 | p :: ps, [], cs, env, t, hx, hp, hN, he, s => by
  have : cs = [] := by have := hx.1; simpa using this
  subst this
  exact he s
 | p :: ps, v :: x, [], env, t, hx, hp, hN, he, s => by have := hx.1; simp at this
 | p :: ps, v :: x, c :: cs, env, t, hx, hp, hN, he, s => by
  simp only [List.all_cons, Bool.and_eq_true, decide_eq_true_eq] at hp
  simp only [puts, List.zip_cons_cons, List.foldl_cons]
  refine env_puts (N := N) (ps := ps) (x := x) (cs := cs) ⟨by have := hx.1; simpa using this, fun j y d hy hd => hx.2 (j + 1) y d (by simpa using hy) (by simpa using hd)⟩ hp.2 (by simpa using hN) (fun s' => ?_) s
  have := env_put (N := N) (a := { tmps := t, defers := [] }) (dst := some p) (v := v) (cv := c) he hN (by simp [dstOK]; exact hp.1) (hx.2 0 v c rfl rfl) s'
  exact this
theorem zip_foldl {ps : Array Nat} {args : List Value} {t : Array Value} :
  (ps.zip args.toArray).foldl (fun tmps (t, a) => tmps.setIfInBounds t a) t = (ps.toList.zip args).foldl (fun t (p : Nat × Value) => t.setIfInBounds p.1 p.2) t := by
 rw [← Array.foldl_toList]
 simp [Array.toList_zip]
def jumpOf : Nat → Code
 | 0 => .ret
 | id + 1 => .exit id
section
variable {P : Program} {N : Nat} {ex : List Nat} {It : ItTy}
theorem rfn_sound (hIt : ItOK P It) {F : Fence} {n0 : Nat} {Inv : Md → Cx → List Deferred → Prop} (hF : FOK F) (hI : InvOK n0 Inv) (hRf : RfnOK It P F Inv) {Y : Yield}
  {g : Operand} {ps : Array Tmp} {asg body : Code} {g' : Od} {ia ib : IC} (hg : trX g = some g') (hps : ps.toList.all (fun p => decide (p < N)) = true)
  (iha : ∀ {F : Fence} {n0 : Nat} {Inv : Md → Cx → List Deferred → Prop}, FOK F → InvOK n0 Inv → RfnOK It P F Inv → ∀ {K : Kt} {E : List (Nat × Kt)} {Rt : Kt} {Q : Exit → Act → World → Prop},
   (∀ a w, Lift Inv N K a w → Q .normal a w) → (∀ id a w, Lift Inv N (exitK E id) a w → Q (.exit id) a w) → (∀ a w, Lift Inv N Rt a w → Q .ret a w) → ∀ {a w}, Lift Inv N (ab P noY It n0 ia K E Rt) a w → asg.wpIn F 0 P Q a w)
  (ihb : ∀ {F : Fence} {n0 : Nat} {Inv : Md → Cx → List Deferred → Prop}, FOK F → InvOK n0 Inv → RfnOK It P F Inv → ∀ {K : Kt} {E : List (Nat × Kt)} {Rt : Kt} {Q : Exit → Act → World → Prop},
   (∀ a w, Lift Inv N K a w → Q .normal a w) → (∀ id a w, Lift Inv N (exitK E id) a w → Q (.exit id) a w) → (∀ a w, Lift Inv N Rt a w → Q .ret a w) → ∀ {a w}, Lift Inv N (ab P noY It n0 ib K E Rt) a w → body.wpIn F 0 P Q a w)
  {K : Kt} {E : List (Nat × Kt)} {Rt : Kt} {Q : Exit → Act → World → Prop} (hQ : ∀ a w, Lift Inv N K a w → Q .normal a w) (hE : ∀ id a w, Lift Inv N (exitK E id) a w → Q (.exit id) a w) (hR : ∀ a w, Lift Inv N Rt a w → Q .ret a w)
  {a : Act} {w : World} (hl : Lift Inv N (ab P Y It n0 (.rfn g' ps.toList ia ib) K E Rt) a w) : (Code.rangeFunc g ps asg body).wpIn F 0 P Q a w := by
 obtain ⟨C, md, env, σ, rfl, hRR, hinv, hN, he, hk⟩ := hl
 have hgv := trX_sound (C := C) hg he
 simp only [ab] at hk
 split at hk
 ·rename_i f first cap hev
  rw [hev] at hgv
  obtain ⟨Ny, X, Pre, hit, J, hJP, hJ0, hround, hfin⟩ := hk
  obtain ⟨cf, cc, hfe, hl1, hl2, h1, h2⟩ : ∃ cf cc, a.eval g = .func (.func f) cf cc ∧ cf.size = first.length ∧ cc.size = cap.length ∧
    (∀ (j : Nat) (x : V) (c : Value), first[j]? = some x → cf[j]? = some c → VR C x c) ∧ (∀ (j : Nat) (x : V) (c : Value), cap[j]? = some x → cc[j]? = some c → VR C x c) := by
   generalize a.eval g = cv at hgv
   cases hgv with
   | f _ _ _ cf cc a1 a2 a3 a4 => exact ⟨cf, cc, rfl, a1, a2, a3, a4⟩
  obtain ⟨⟨fn, hf, hn, hb⟩, hspec⟩ := hIt f first cap Ny X Pre hit
  refine wpIn_rangeFunc (fun fid _ => ?_)
  obtain ⟨l, mark, w1, dd, hent, ho1, ho2, ho3, hll, hlt, hold, hrec, hback⟩ := hRf ⟨f, first, cap, Ny, X, Pre, hit⟩ md C a.defers fid a.tmps ps asg body hRR.wf hinv
  obtain ⟨hR1, hx1⟩ := hRR.quiet (w' := w1) ho1 ho2 ho3 (by omega) hold
  have hlρ : ∀ i p : Nat, (C.world w1).ρ[i]? ≠ some (l, p) := fun i p hi => by have := hRR.wf.lt i l p hi; omega
  have hlz : ¬ (C.world w1).Z l := fun hz => by have := hRR.wf.zlt l hz; omega
  have hwf1 := hR1.wf
  have hlen1 : (C.world w1).vs.length = σ.length := hR1.len.symm
  have hrc : ∀ {st : LoopState} {pe : Option Code}, ∃ r : Loop, r = { state := st, pending := pe, fn := fid, tmps := a.tmps, params := ps, assign := asg, body := body, defers := dd } := fun {st pe} => ⟨_, rfl⟩
  let rec_ : LoopState → Option Code → Loop := fun st pe => { state := st, pending := pe, fn := fid, tmps := a.tmps, params := ps, assign := asg, body := body, defers := dd }
  let Iv : Md → Cx → List Deferred → Prop := fun md' C' D => D = [] ∧ ExtA (· = l) (C.world w1) C' ∧ C'.w.heap[l]? = some (.loop (match md' with | none => rec_ .ready none | some j => rec_ .done (some (jumpOf j))))
  have ap : ∀ {C' : Cx}, ExtA (· = l) (C.world w1) C' → l < C'.w.heap.size ∧ (∀ i p : Nat, C'.ρ[i]? ≠ some (l, p)) ∧ ¬ C'.Z l := fun h => h.apart hlt hlρ hlz
  have hIv : InvOK σ.length Iv := {
   ext := fun {md' C' C'' D} h wf x => ⟨h.1, h.2.1.trans (x.toA _) (fun b hb => .inl hb), (x.frame l (ap h.2.1).1 (ap h.2.1).2.1).trans h.2.2⟩
   trunc := fun {md' C' D n} h wf hn => ⟨h.1, truncA h.2.1 hwf1 (by omega), h.2.2⟩
   le := fun {md' C' D} h => by have := h.2.1.len; omega }
  have ev1 : ∀ t, VR (C.world w1) (get env t) (a.tmps.getD t undef) := fun t => (he t).ext hx1 hRR.wf
  let Dn : Nat → List O → Prop := fun j σ' => match j with | 0 => Rt md env σ' | id + 1 => exitK E id md env σ'
  let Yl : Yield := fun l' args σ' Kont => l' = l ∧ ∃ i s1 g, σ' = s1 ++ g ∧ i < Ny ∧ X i args s1 g ∧ J i s1 ∧ (∀ σ'', J (i + 1) σ'' → Kont none (.b true) σ'') ∧ (∀ j σ'', Dn j σ'' → Kont (some j) (.b false) σ'')
  have hYl : YOK P Fence.wide Iv Yl := by
   rintro l' args σ' Kont C' D cargs ⟨rfl, hxa, hrl⟩ hR' hargs ⟨rfl, i, s1, g1, hsg, hin, hxi, hJi, hKt, hKf⟩
   obtain ⟨hxl, habs⟩ := hround i args s1 g1 hin hxi hJi
   rw [← hsg] at habs
   obtain ⟨al, aρ, az⟩ := ap hxa
   have hwf' := hR'.wf
   have hlen' : C'.vs.length = σ'.length := hR'.len.symm
   refine ⟨fid, _, asg, body, C'.w, run_yield hrl (by
    have h3 : cargs.length = args.length := hargs.1
    simp only [List.size_toArray]
    show cargs.length = ps.size
    rw [h3, hxl]; simp), roundIn_of_wpIn (F := Fence.wide) trivial ?_⟩
   let Ir : LoopState → Md → Cx → List Deferred → Prop := fun st md' C'' D => md' = md ∧ D = [] ∧ ExtA (· = l') (C.world w1) C'' ∧ ExtA (· = l') C' C'' ∧ C''.w.heap[l']? = some (.loop (rec_ st none))
   have hIr : ∀ st, InvOK σ'.length (Ir st) := fun st => {
    ext := fun {md' C1 C2 D} h wf x => ⟨h.1, h.2.1, h.2.2.1.trans (x.toA _) (fun b hb => .inl hb), h.2.2.2.1.trans (x.toA _) (fun b hb => .inl hb), (x.frame l' (ap h.2.2.1).1 (ap h.2.2.1).2.1).trans h.2.2.2.2⟩
    trunc := fun {md' C1 D n} h wf hn => ⟨h.1, h.2.1, truncA h.2.2.1 hwf1 (by have := hxa.len; omega), truncA h.2.2.2.1 hwf' (by omega), h.2.2.2.2⟩
    le := fun {md' C1 D} h => by have := h.2.2.2.1.len; omega }
   have hRr : ∀ st, RfnOK It P (Fence.wide.inRound l') (Ir st) := by
    rintro st - md' C1 D fn' tmps' ps' asg' body' wf ⟨e1, e2, e3, e4, e5⟩
    subst e2
    obtain ⟨bl, bρ, bz⟩ := ap e3
    refine ⟨C1.w.heap.size, [], C1.w.alloc (.loop { state := .ready, pending := none, fn := fn', tmps := tmps', params := ps', assign := asg', body := body', defers := (rec_ st none).defers }), (rec_ st none).defers, ?_, rfl, rfl, rfl, Nat.le_refl _, by simp, fun b hb => heap_alloc_lt _ _ hb, heap_alloc_eq _ _, ?_⟩
    ·unfold Instr.enterLoop
     simp only [Fence.inRound_round, Sem.run_bind, run_getLoop e5, Result.andThen, Sem.run_pure, run_newObj_alloc]
    ·intro C2 hx2
     generalize hob : (Obj.loop { state := .ready, pending := none, fn := fn', tmps := tmps', params := ps', assign := asg', body := body', defers := (rec_ st none).defers }) = ob at hx2
     have hq : ExtA (fun _ => False) C1 (C1.world (C1.w.alloc ob)) :=
      (world_ext (w' := C1.w.alloc ob) wf rfl rfl rfl (by simp) (fun b hb _ => heap_alloc_lt _ _ hb) (fun i b p hi cc t hc => ⟨cc, (heap_alloc_lt _ _ (wf.lt i b p hi)).trans hc, rfl⟩)).toA _
     have hq2 : ExtA (fun _ => False) C1 C2 := by
      have := (hq.trans hx2 (fun b hb => .inr (by rw [hb]; exact Nat.le_refl _)))
      exact this
     refine ⟨e1, rfl, e3.trans hq2 (fun b hb => hb.elim), e4.trans hq2 (fun b hb => hb.elim), ?_⟩
     exact (hq2.frame l' bl bρ (fun h => h)).trans e5
   have hstart : Lift (Ir .ready) N (ab P noY It σ'.length ia (ab P noY It σ'.length ib (roundK σ'.length (J (i + 1)) md) (constE env E) (constK env Rt)) [] (fun _ _ _ => False))
     { tmps := (ps.zip cargs.toArray).foldl (fun tmps (t, a) => tmps.setIfInBounds t a) a.tmps, defers := [] } C'.w := by
    refine ⟨C', md, puts env ps.toList args, σ', rfl, hR', ⟨rfl, rfl, hxa, ExtA.refl _ _, hrl⟩, ?_, fun t => ?_, habs⟩
    ·show N ≤ ((ps.zip cargs.toArray).foldl (fun tmps (t, a) => tmps.setIfInBounds t a) a.tmps).size
     rw [zip_foldl, foldl_puts_size]; exact hN
    ·show VR C' _ (((ps.zip cargs.toArray).foldl (fun tmps (t, a) => tmps.setIfInBounds t a) a.tmps).getD t undef)
     rw [zip_foldl]
     exact env_puts hargs hps hN (fun s => (ev1 s).extA hxa hwf1 (fun b hb => hb ▸ hlz)) t
   refine iha (F := Fence.wide.inRound l') (n0 := σ'.length) (Inv := Ir .ready) (.inr ⟨l', rfl⟩) (hIr _) (hRr _) ?_ (fun id a w h => by obtain ⟨_, _, _, _, _, _, _, _, _, h⟩ := h; exact h.elim) (fun a w h => by obtain ⟨_, _, _, _, _, _, _, _, _, h⟩ := h; exact h.elim) hstart
   rintro a2 w2 ⟨C2, md2, env2, σ2, rfl, hR2, ⟨rfl, hd2, hx2, hy2, hr2⟩, hN2, he2, hk2⟩
   obtain ⟨bl, bρ, bz⟩ := ap hx2
   obtain ⟨hR3, hx3, hr3⟩ := hR2.put bl bρ bz (.loop { rec_ .ready none with state := .busy })
   refine ⟨_, run_beginRound hr2 rfl, ?_⟩
   have hbody : Lift (Ir .busy) N (ab P noY It σ'.length ib (roundK σ'.length (J (i + 1)) md2) (constE env E) (constK env Rt)) a2 (C2.w.putObj l' (.loop { rec_ .ready none with state := .busy })) :=
    ⟨C2.world _, md2, env2, σ2, rfl, hR3, ⟨rfl, hd2, hx2.trans hx3 (fun b hb => .inl hb), hy2.trans hx3 (fun b hb => .inl hb), hr3⟩, hN2, fun t => (he2 t).extA hx3 hR2.wf (fun b hb => hb ▸ bz), hk2⟩
   have fin : ∀ (C4 : Cx) (σ4 : List O) (md' : Md) (jump : Option Code), R C4 σ4 → Ir .busy md2 C4 [] → Kont md' (.b jump.isNone) σ4 →
     (match md' with | none => jump = none | some j => jump = some (jumpOf j)) →
     ∃ v w', (Instr.endRound l' jump).run P C4.w = .ok v w' ∧ ∃ md' C5 b σ', C5.w = w' ∧ Ending.returned v = .returned (.bool b) ∧ R C5 σ' ∧ (∀ v c, VR C' v c → VR C5 v c) ∧ Iv md' C5 [] ∧ Kont md' (.b b) σ' := by
    rintro C4 σ4 md' jump hR4 ⟨-, -, hx4, hy4, hr4⟩ hK4 hj
    obtain ⟨dl, dρ, dz⟩ := ap hx4
    obtain ⟨hR5, hx5, hr5⟩ := hR4.put dl dρ dz (.loop (rec_ (if jump.isNone then .ready else .done) jump))
    refine ⟨_, _, run_endRound jump hr4, md', C4.world (C4.w.putObj l' (.loop (rec_ (if jump.isNone then .ready else .done) jump))), jump.isNone, σ4, rfl, rfl, hR5, fun v c hv => ?_, ⟨rfl, hx4.trans hx5 (fun b hb => .inl hb), ?_⟩, hK4⟩
    ·exact hv.extA (hy4.trans hx5 (fun b hb => .inl hb)) hwf' (fun b hb => hb ▸ az)
    ·cases md' with
     | none => subst hj; exact hr5
     | some j => subst hj; exact hr5
   refine ihb (F := Fence.wide.inRound l') (n0 := σ'.length) (Inv := Ir .busy) (.inr ⟨l', rfl⟩) (hIr _) (hRr _) ?_ ?_ ?_ hbody
   ·rintro a4 w4 ⟨C4, md4, env4, σ4, rfl, hR4, hi4, hN4, he4, rfl, hk4⟩
    have hd4 : a4.defers = [] := hi4.2.1
    rw [hd4] at hi4
    rcases hk4 with hk4 | ⟨k, n, hn1, hn2, hk4⟩
    ·exact fin C4 σ4 none none hR4 hi4 (hKt _ hk4) rfl
    ·exact fin (C4.trunc n) (frzS k n σ4) none none (frzS_sound hR4 k hn2) ((hIr _).trunc hi4 hR4.wf hn1) (hKt _ hk4) rfl
   ·rintro id a4 w4 ⟨C4, md4, env4, σ4, rfl, hR4, hi4, hN4, he4, hk4⟩
    have hd4 : a4.defers = [] := hi4.2.1
    have hm4 : md4 = md2 := hi4.1
    subst hm4
    rw [hd4] at hi4
    rw [exitK_const] at hk4
    exact fin C4 σ4 (some (id + 1)) (some (.exit id)) hR4 hi4 (hKf (id + 1) σ4 hk4) rfl
   ·rintro a4 w4 ⟨C4, md4, env4, σ4, rfl, hR4, hi4, hN4, he4, hk4⟩
    have hd4 : a4.defers = [] := hi4.2.1
    have hm4 : md4 = md2 := hi4.1
    subst hm4
    rw [hd4] at hi4
    exact fin C4 σ4 (some 0) (some .ret) hR4 hi4 (hKf 0 σ4 hk4) rfl
  have hcargs : VRl (C.world w1) (first ++ [V.f (.yield l) [] []] ++ cap) (cf.toList ++ [Value.func (.yield l) #[] #[]] ++ cc.toList) := by
   refine (VRl.append ⟨by simpa using hl1, fun j x c hx hc => (h1 j x c hx (by simpa using hc)).ext hx1 hRR.wf⟩ ⟨rfl, fun j x c hx hc => ?_⟩).append ⟨by simpa using hl2, fun j x c hx hc => (h2 j x c hx (by simpa using hc)).ext hx1 hRR.wf⟩
   cases j with
   | zero =>
    simp at hx hc
    subst hx; subst hc
    exact .f _ _ _ _ _ rfl rfl (by simp) (by simp)
   | succ j => simp at hx
  have hcall := hspec Iv Yl J Dn (C.world w1) σ l _ hIv hYl hR1 ⟨rfl, ExtA.refl _ _, hrec⟩ hJ0 hJP hcargs (fun i x σ' g' Kont hin hxi hJi hKt hKf => ⟨rfl, i, σ', g', rfl, hin, hxi, hJi, hKt, hKf⟩)
  have hargs : (cf.toList ++ [Value.func (.yield l) #[] #[]] ++ cc.toList).toArray = cf ++ #[Value.func (.yield l) #[] #[]] ++ cc := by simp [← Array.toList_inj]
  rw [hargs] at hcall
  refine ⟨l, mark, w1, { target := .fn (.func f) cc, args := cf ++ #[Value.func (.yield l) #[] #[]] }, w1, f, cf ++ #[Value.func (.yield l) #[] #[]] ++ cc, w1, hent, ?_, fun f' _ => hF.fn f', ?_, by rw [hF.depth]; simp, ?_⟩
  ·have : (rangeCall g l).args.map a.eval = #[Value.func (.yield l) #[] #[]] := by simp [Act.eval]
   simp only [resolve, hfe, this, Deferred.ofValue, Sem.run_pure]
  ·simp only [invoke]
   exact callFunc_run hf hn hb _ _
  ·refine (hF.calls hcall).mono ?_
   rintro e w' ⟨C', cv, md', σ', rfl, rfl, hR', ⟨-, hxa, hrl⟩, hpost⟩
   obtain ⟨al, aρ, az⟩ := ap hxa
   obtain ⟨hR6, hx6, hr6⟩ := hR'.put al aρ az (.loop { (match md' with | none => rec_ .ready none | some j => rec_ .done (some (jumpOf j))) with state := .exhausted })
   have hst : (match md' with | none => rec_ .ready none | some j => rec_ .done (some (jumpOf j))).state ≠ .busy := by cases md' <;> simp [rec_]
   refine ⟨_, _, run_endLoop hrl hst, ?_⟩
   have hx7 := hxa.trans hx6 (fun b hb => .inl hb)
   have hinv7 := hback _ hx7
   have he7 : ∀ t, VR (C'.world _) (get env t) (a.tmps.getD t undef) := fun t => (ev1 t).extA hx7 hwf1 (fun b hb => hb ▸ hlz)
   cases md' with
   | none => exact hQ _ _ ⟨_, md, env, σ', rfl, hR6, hinv7, hN, he7, hfin σ' hpost⟩
   | some j =>
    cases j with
    | zero => exact wpIn_ret (hR _ _ ⟨_, md, env, σ', rfl, hR6, hinv7, hN, he7, hpost⟩)
    | succ id => exact wpIn_exit (hE id _ _ ⟨_, md, env, σ', rfl, hR6, hinv7, hN, he7, hpost⟩)
 ·exact hk.elim
theorem ab_sound (hm : P.follows .mixedOrders = true) (hIt : ItOK P It) : ∀ (c : Code) {F : Fence} {n0 : Nat} {Inv : Md → Cx → List Deferred → Prop}, FOK F → InvOK n0 Inv → RfnOK It P F Inv → ∀ {Y : Yield}, (F = Fence.wide ∨ Y = noY) → YOK P F Inv Y →
  ∀ {ic : IC}, trC P N ex c = some ic.erase → ∀ {K : Kt} {E : List (Nat × Kt)} {Rt : Kt} {Q : Exit → Act → World → Prop},
   (∀ a w, Lift Inv N K a w → Q .normal a w) → (∀ id a w, Lift Inv N (exitK E id) a w → Q (.exit id) a w) → (∀ a w, Lift Inv N Rt a w → Q .ret a w) → ∀ {a w}, Lift Inv N (ab P Y It n0 ic K E Rt) a w → c.wpIn F 0 P Q a w := by
 intro c
 induction c with
 | skip =>
  intro F n0 Inv hF hI hRf Y hW hY ic htr K E Rt Q hQ hE hR a w hl
  simp only [trC, Option.some.injEq] at htr
  cases ic <;> simp [IC.erase] at htr
  exact wpIn_skip (hQ a w hl)
 | label l =>
  intro F n0 Inv hF hI hRf Y hW hY ic htr K E Rt Q hQ hE hR a w hl
  simp only [trC, Option.some.injEq] at htr
  cases ic <;> simp [IC.erase] at htr
  exact wpIn_label (hQ a w hl)
 | region id ops draw =>
  intro F n0 Inv hF hI hRf Y hW hY ic htr K E Rt Q hQ hE hR a w hl
  simp only [trC] at htr
  split at htr
  ·rename_i ss hss
   cases draw with
   | false =>
    simp only [Bool.false_eq_true, if_false, Option.some.injEq] at htr
    cases ic <;> simp [IC.erase] at htr
    rename_i ops' live
    subst htr
    refine wpIn_region_list (abSs_sound (K := keepK live K) hF hW hI hY (fun a w h => hQ a w ?_) hss hl)
    obtain ⟨C, md, env, σ, h1, h2, h3, h4, h5, h6⟩ := h
    exact ⟨C, md, keepO env live, σ, h1, h2, h3, h4, env_keep h5 live, h6⟩
   | true =>
    simp only [if_true] at htr
    split at htr
    ·rename_i hok
     simp only [Option.some.injEq] at htr
     cases ic <;> simp [IC.erase] at htr
     rename_i ops' live
     subst htr
     refine drw_sound (K := keepK live K) hm hF hI hss hok (fun a w h => hQ a w ?_) hl
     obtain ⟨C, md, env, σ, h1, h2, h3, h4, h5, h6⟩ := h
     exact ⟨C, md, keepO env live, σ, h1, h2, h3, h4, env_keep h5 live, h6⟩
    ·cases hal : altsOf P N ex ops ss (ops.toList.map trEdges) (befores (ops.toList.map trEdges) []) with
     | none => rw [hal] at htr; cases htr
     | some ls =>
      rw [hal] at htr
      simp only [Option.map_some, Option.some.injEq] at htr
      cases ic <;> simp [IC.erase] at htr
      rename_i ls' live
      subst htr
      refine alt_sound (K := keepK live K) hm hF hI hss hal (fun a w h => hQ a w ?_) hl
      obtain ⟨C, md, env, σ, h1, h2, h3, h4, h5, h6⟩ := h
      exact ⟨C, md, keepO env live, σ, h1, h2, h3, h4, env_keep h5 live, h6⟩
  ·cases htr
 | seq x y ihx ihy =>
  intro F n0 Inv hF hI hRf Y hW hY ic htr K E Rt Q hQ hE hR a w hl
  simp only [trC] at htr
  split at htr
  ·rename_i ix iy hx hy
   simp only [Option.some.injEq] at htr
   cases ic <;> simp [IC.erase] at htr
   obtain ⟨rfl, rfl⟩ := htr
   exact wpIn_seq (ihx (Q := Exit.then (y.wpIn F 0 P Q) Q) hF hI hRf hW hY hx (fun a w h => ihy hF hI hRf hW hY hy hQ hE hR h) hE hR hl)
  ·cases htr
 | cond c x y ihx ihy =>
  intro F n0 Inv hF hI hRf Y hW hY ic htr K E Rt Q hQ hE hR a w hl
  simp only [trC] at htr
  split at htr
  ·rename_i c' ix iy hc hx hy
   simp only [Option.some.injEq] at htr
   cases ic <;> simp [IC.erase] at htr
   obtain ⟨rfl, rfl, rfl⟩ := htr
   obtain ⟨C, md, env, σ, rfl, h2, h3, h4, h5, h6⟩ := hl
   simp only [ab] at h6
   split at h6
   ·rename_i t ht
    have hv := trX_sound hc h5
    rw [ht] at hv
    refine wpIn_cond (t := t) (bool_inv hv) ?_
    cases t with
    | true => exact ihx hF hI hRf hW hY hx hQ hE hR ⟨C, md, env, σ, rfl, h2, h3, h4, h5, by simpa using h6⟩
    | false => exact ihy hF hI hRf hW hY hy hQ hE hR ⟨C, md, env, σ, rfl, h2, h3, h4, h5, by simpa using h6⟩
   ·exact h6.elim
  ·cases htr
 | block id x ihx =>
  intro F n0 Inv hF hI hRf Y hW hY ic htr K E Rt Q hQ hE hR a w hl
  simp only [trC, Option.map_eq_some_iff] at htr
  obtain ⟨ix, hx, htr⟩ := htr
  cases ic <;> simp [IC.erase] at htr
  obtain ⟨rfl, rfl⟩ := htr
  refine wpIn_block (ihx (Q := Exit.inBlock id Q) hF hI hRf hW hY hx hQ (fun id' a w h => ?_) hR hl)
  simp only [Exit.inBlock]
  split
  ·rename_i hid
   subst hid
   refine hQ a w (h.mono fun md env σ hk => ?_)
   simpa [exitK] using hk
  ·rename_i hid
   refine hE id' a w (h.mono fun md env σ hk => ?_)
   simp only [exitK, if_neg (fun hE => hid (Eq.symm hE))] at hk
   exact hk
 | loop x ihx =>
  intro F n0 Inv hF hI hRf Y hW hY ic htr K E Rt Q hQ hE hR a w hl
  simp only [trC, Option.map_eq_some_iff] at htr
  obtain ⟨ix, hx, htr⟩ := htr
  cases ic <;> simp [IC.erase] at htr
  rename_i live x'
  subst htr
  obtain ⟨C, md, env, σ, rfl, h2, h3, h4, h5, Ia, hstart, hround⟩ := hl
  have hst : ∃ m, Lift Inv N (fun md' env σ => md' = md ∧ Ia m env σ) a C.w := by
   rcases hstart with ⟨m0, hm0⟩ | ⟨m0, k, n, hn1, hn2, hm0⟩
   ·exact ⟨m0, C, md, keepO env live, σ, rfl, h2, h3, h4, env_keep h5 live, rfl, hm0⟩
   ·exact ⟨m0, C.trunc n, md, keepO (frzE k n σ env) live, frzS k n σ, rfl, frzS_sound h2 k hn2, hI.trunc h3 h2.wf hn1, h4, env_keep (env_frz h2 h5 k n) live, rfl, hm0⟩
  refine wpIn_loop_ex (fun m a w => Lift Inv N (fun md' env σ => md' = md ∧ Ia m env σ) a w) hst ?_
  rintro m a1 w1 ⟨C1, md1, env1, σ1, rfl, k2, k3, k4, k5, rfl, k6⟩
  refine ihx (Q := Exit.then _ Q) hF hI hRf hW hY hx ?_ (fun id a w h => hE id a w h) (fun a w h => hR a w h) ⟨C1, md1, env1, σ1, rfl, k2, k3, k4, k5, hround m env1 σ1 k6⟩
  rintro a2 w2 ⟨C2, md2, env2, σ2, rfl, j2, j3, j4, j5, rfl, m', hlt, j6⟩
  refine ⟨m', hlt, ?_⟩
  rcases j6 with j6 | ⟨k, n, hn1, hn2, j6⟩
  ·exact ⟨C2, md2, keepO env2 live, σ2, rfl, j2, j3, j4, env_keep j5 live, rfl, j6⟩
  ·exact ⟨C2.trunc n, md2, keepO (frzE k n σ2 env2) live, frzS k n σ2, rfl, frzS_sound j2 k hn2, hI.trunc j3 j2.wf hn1, j4, env_keep (env_frz j2 j5 k n) live, rfl, j6⟩
 | rangeFunc g ps asg body iha ihb =>
  intro F n0 Inv hF hI hRf Y hW hY ic htr K E Rt Q hQ hE hR a w hl
  simp only [trC] at htr
  split at htr
  ·rename_i g' ix iy hg hx hy
   split at htr
   ·rename_i hps
    simp only [Option.some.injEq] at htr
    cases ic <;> simp [IC.erase] at htr
    obtain ⟨rfl, rfl, rfl, rfl⟩ := htr
    exact rfn_sound hIt hF hI hRf hg hps (fun hF hI hRf => iha hF hI hRf (.inr rfl) noY_ok hx) (fun hF hI hRf => ihb hF hI hRf (.inr rfl) noY_ok hy) hQ hE hR hl
   ·cases htr
  ·cases htr
 | exit id =>
  intro F n0 Inv hF hI hRf Y hW hY ic htr K E Rt Q hQ hE hR a w hl
  simp only [trC, Option.some.injEq] at htr
  cases ic <;> simp [IC.erase] at htr
  subst htr
  exact wpIn_exit (hE id a w hl)
 | scope x ihx =>
  intro F n0 Inv hF hI hRf Y hW hY ic htr K E Rt Q hQ hE hR a w hl
  exact wpIn_scope (ihx (Q := Exit.noGoto Q) hF hI hRf hW hY htr (fun a w h => hQ a w h) (fun id a w h => hE id a w h) (fun a w h => hR a w h) hl)
 | goto l => intro F n0 Inv hF hI hRf Y hW hY ic htr; simp [trC] at htr
 | ret =>
  intro F n0 Inv hF hI hRf Y hW hY ic htr K E Rt Q hQ hE hR a w hl
  simp only [trC, Option.some.injEq] at htr
  cases ic <;> simp [IC.erase] at htr
  exact wpIn_ret (hR a w hl)
 | refuse why => intro F n0 Inv hF hI hRf Y hW hY ic htr; simp [trC] at htr
end
end Go.Ab
end
section
namespace Go.Ab
open Go
inductive IRes where
 | tmp (t : Nat)
 | one (t : Nat)
 | many (n t : Nat)
 deriving Inhabited
def resK : List IRes → Env → List O → (List V → Prop) → Prop
 | [], _, _, K => K []
 | .tmp t :: r, env, σ, K => resK r env σ (fun vs => K (get env t :: vs))
 | .one t :: r, env, σ, K => ld1K (get env t) σ (fun v => resK r env σ (fun vs => K (v :: vs)))
 | .many n t :: r, env, σ, K => ldAK n (get env t) σ (fun v => resK r env σ (fun vs => K (v :: vs)))
def retV : List V → V
 | [v] => v
 | vs => .tup vs
def trRes (P : Program) : List ResultVar → Option (List IRes)
 | [] => some []
 | .tmp t :: r => (trRes P r).map (.tmp t :: ·)
 | .cell a t :: r => match aggP P t, szP P t, trRes P r with
  | some false, _, some l => some (.one a :: l)
  | some true, some n, some l => some (.many n a :: l)
  | _, _, _ => none
section
variable {P : Program} {C : Cx} {σ : List O} {env : Env} {a : Act}
def readRes (tmps : Array Value) : ResultVar → Sem Value
 | .tmp t => pure (tmps.getD t undef)
 | .cell a t => do loadVar t (← asAddr (tmps.getD a undef))
theorem resK_sound (h : R C σ) (he : ∀ t, VR C (get env t) (a.tmps.getD t undef)) : ∀ {rv : List ResultVar} {rs : List IRes}, trRes P rv = some rs → ∀ {K : List V → Prop}, resK rs env σ K →
  ∃ vs cs, (rv.mapM (readRes a.tmps)).run P C.w = .ok cs C.w ∧ VRl C vs cs ∧ K vs
 | [], rs, htr, K, hk => by
  simp only [trRes, Option.some.injEq] at htr
  subst htr
  exact ⟨[], [], by simp, ⟨rfl, by simp⟩, hk⟩
 | .tmp t :: rv, rs, htr, K, hk => by
  simp only [trRes, Option.map_eq_some_iff] at htr
  obtain ⟨rs', hr, rfl⟩ := htr
  obtain ⟨vs, cs, h1, h2, h3⟩ := resK_sound h he hr hk
  refine ⟨get env t :: vs, a.tmps.getD t undef :: cs, ?_, ⟨by simp [h2.1], fun j x c hx hc => ?_⟩, h3⟩
  ·simp only [List.mapM_cons, readRes, Sem.run_bind, Sem.run_pure, Result.andThen_ok, h1]
  ·cases j with
   | zero => obtain rfl := Option.some.inj hx; obtain rfl := Option.some.inj hc; exact he t
   | succ j => exact h2.2 j x c (by simpa using hx) (by simpa using hc)
 | .cell b t :: rv, rs, htr, K, hk => by
  simp only [trRes] at htr
  split at htr
  ·rename_i l ha hr
   cases htr
   obtain ⟨blk, o, v, cv, hp, hc, hv, hk⟩ := ld1_cell h (he b) hk
   obtain ⟨vs, cs, h1, h2, h3⟩ := resK_sound h he hr hk
   refine ⟨v :: vs, cv :: cs, ?_, ⟨by simp [h2.1], fun j x c hx hc => ?_⟩, h3⟩
   ·have : (readRes a.tmps (.cell b t)).run P C.w = .ok cv C.w := by
     simp [readRes, hp, asAddr, loadVar, run_isAgg_false ha, hc]
    simp only [List.mapM_cons, Sem.run_bind, Sem.run_pure, Result.andThen_ok, this, h1]
   ·cases j with
    | zero => simp at hx hc; subst hx; subst hc; exact hv
    | succ j => exact h2.2 j x c (by simpa using hx) (by simpa using hc)
  ·rename_i n l ha hn hr
   cases htr
   obtain ⟨blk, o, xs, ds, hp, hl, hc, hv, hk⟩ := ldA_cells h (he b) hk
   obtain ⟨vs, cs, h1, h2, h3⟩ := resK_sound h he hr hk
   refine ⟨.agg xs :: vs, .agg ds.toArray :: cs, ?_, ⟨by simp [h2.1], fun j x c hx hc => ?_⟩, h3⟩
   ·have hlc := run_loadCells_list (P := P) C.w ⟨blk, o, none⟩ ds (fun j v hj => by rw [add_at]; exact hc j v hj)
    rw [hl] at hlc
    have : (readRes a.tmps (.cell b t)).run P C.w = .ok (.agg ds.toArray) C.w := by
     simp [readRes, hp, asAddr, loadVar, run_isAgg_true ha, run_sizeOf hn, hlc]
    simp only [List.mapM_cons, Sem.run_bind, Sem.run_pure, Result.andThen_ok, this, h1]
   ·cases j with
    | zero => simp at hx hc; subst hx; subst hc; exact hv
    | succ j => exact h2.2 j x c (by simpa using hx) (by simpa using hc)
  ·cases htr
theorem results_run {fn : Func} {tmps : Array Value} {cs : List Value} {w : World} (h : (fn.results.toList.mapM (readRes tmps)).run P w = .ok cs w) :
  ∃ cv, (results fn tmps).run P w = .ok cv w ∧ ∀ {C : Cx} {vs : List V}, VRl C vs cs → VR C (retV vs) cv := by
 have hm : (fn.results.mapM (readRes tmps)).run P w = .ok cs.toArray w := by
  have e : fn.results = fn.results.toList.toArray := by simp
  rw [e, List.mapM_toArray]
  simp only [Sem.run_map, h, Result.andThen_ok]
 have hr : (results fn tmps).run P w = .ok (if h : cs.toArray.size = 1 then cs.toArray[0] else .tuple cs.toArray) w := by
  have : results fn tmps = (do let vs ← fn.results.mapM (readRes tmps); pure (if h : vs.size = 1 then vs[0] else .tuple vs)) := by
   unfold results
   congr 1
  rw [this]
  simp only [Sem.run_bind, hm, Result.andThen_ok, Sem.run_pure]
 refine ⟨_, hr, fun {C vs} hvs => ?_⟩
 match vs, cs, hvs with
 | [], [], hvs => exact .tup [] #[] rfl (by simp)
 | [v], [c], hvs => exact hvs.2 0 v c rfl rfl
 | v :: v' :: vs, c :: c' :: cs, hvs =>
  have : ¬ ((c :: c' :: cs).toArray.size = 1) := by simp
  rw [dif_neg this]
  exact .tup _ _ (by have := hvs.1; simpa using this) (fun j x d hx hd => hvs.2 j x d hx (by simpa using hd))
 | [], c :: cs, hvs => have := hvs.1; simp at this
 | [v], [], hvs => have := hvs.1; simp at this
 | [v], c :: c' :: cs, hvs => have := hvs.1; simp at this
 | v :: v' :: vs, [], hvs => have := hvs.1; simp at this
 | v :: v' :: vs, [c], hvs => have := hvs.1; simp at this
end
def mkMark (r : Nat) : Deferred := { target := .collected r, args := #[] }
def Marks (C0 C : Cx) (rs : List Nat) : Prop := rs.Nodup ∧ ∀ r ∈ rs, C0.w.heap.size ≤ r ∧ r < C.w.heap.size ∧ C.w.heap[r]? = some (.deferred (some [])) ∧ (∀ i p : Nat, C.ρ[i]? ≠ some (r, p)) ∧ ¬ C.Z r
def PInv (C0 : Cx) (md : Md) (C : Cx) (D : List Deferred) : Prop := md = some 0 ∧ Ext C0 C ∧ ∃ rs, D = rs.map mkMark ∧ Marks C0 C rs
theorem Marks.step {C0 C C' : Cx} {S : Nat → Prop} {rs : List Nat} (h : Marks C0 C rs) (e : ExtA S C C') (hS : ∀ r ∈ rs, ¬ S r) : Marks C0 C' rs :=
 ⟨h.1, fun r hr => by
  obtain ⟨h1, h2, h3, h4, h5⟩ := h.2 r hr
  obtain ⟨a1, a2, a3⟩ := e.apart h2 h4 h5
  exact ⟨h1, a1, (e.frame r h2 h4 (hS r hr)).trans h3, a2, a3⟩⟩
theorem PInv_ok {C0 : Cx} (wf0 : Wf C0) : InvOK C0.vs.length (PInv C0) where
 ext := fun {md C C' D} ⟨h1, h2, rs, h3, h4⟩ wf x => ⟨h1, h2.trans x, rs, h3, h4.step (x.toA (fun _ => False)) (fun _ _ h => h)⟩
 trunc := fun {md C D n} ⟨h1, h2, rs, h3, h4⟩ wf hn => ⟨h1, trunc_ext h2 wf0 hn, rs, h3, h4.1, fun r hr => by
  obtain ⟨a1, a2, a3, a4, a5⟩ := h4.2 r hr
  refine ⟨a1, a2, a3, fun i p hi => a4 i p (get_take hi).2, ?_⟩
  rintro (hz | ⟨i, p, -, hi⟩)
  ·exact a5 hz
  ·exact a4 i p hi⟩
 le := fun {md C D} ⟨h1, h2, _⟩ => (h2.toA (fun _ => False)).len
theorem PInv_rfn {P : Program} {It : ItTy} {C0 : Cx} : RfnOK It P Fence.wide (PInv C0) := by
 rintro - md C D fn tmps ps asg body wf ⟨h1, h2, rs, rfl, h4⟩
 refine ⟨C.w.heap.size + 1, [{ target := .collected C.w.heap.size, args := #[] }], _, C.w.heap.size, run_enterLoop_outer fn tmps ps asg body, rfl, rfl, rfl, by omega, by simp, ?_, ?_, ?_⟩
 ·intro b hb
  exact (heap_alloc_lt _ _ (by simp; omega)).trans (heap_alloc_lt _ _ hb)
 ·have := World.alloc_heap_new (C.w.alloc (.deferred (some []))) (.loop { state := .ready, pending := none, fn := fn, tmps := tmps, params := ps, assign := asg, body := body, defers := C.w.heap.size })
  rwa [World.size_alloc] at this
 ·intro C' hx
  generalize hob : (Obj.loop { state := .ready, pending := none, fn := fn, tmps := tmps, params := ps, assign := asg, body := body, defers := C.w.heap.size }) = ob at hx
  have hold : ∀ b, b < C.w.heap.size → ((C.w.alloc (.deferred (some []))).alloc ob).heap[b]? = C.w.heap[b]? := fun b hb =>
   (heap_alloc_lt _ _ (by simp; omega)).trans (heap_alloc_lt _ _ hb)
  have e1 : Ext C (C.world ((C.w.alloc (.deferred (some []))).alloc ob)) :=
   world_ext (w' := (C.w.alloc (.deferred (some []))).alloc ob) wf rfl rfl rfl (by simp; omega) (fun b hb _ => hold b hb) (fun i b p hi cc t hc => ⟨cc, (hold b (wf.lt i b p hi)).trans hc, rfl⟩)
  have e2 : ExtA (fun _ => False) C C' := (e1.toA _).trans hx (fun b hb => .inr (by rw [hb]; omega))
  refine ⟨h1, h2.trans (e2.toExt (fun _ h => h.elim)), C.w.heap.size :: rs, rfl, ?_⟩
  have hnew : C.w.heap.size ∉ rs := fun hm => by have := (h4.2 _ hm).2.1; omega
  refine ⟨List.nodup_cons.2 ⟨hnew, h4.1⟩, fun r hr => ?_⟩
  rcases List.mem_cons.1 hr with rfl | hr
  ·have hlt : C.w.heap.size < (C.world ((C.w.alloc (.deferred (some []))).alloc ob)).w.heap.size := by simp [Cx.world]; omega
   have hρ : ∀ i p : Nat, (C.world ((C.w.alloc (.deferred (some []))).alloc ob)).ρ[i]? ≠ some (C.w.heap.size, p) := fun i p hi => by have := wf.lt i _ p hi; omega
   have hz : ¬ (C.world ((C.w.alloc (.deferred (some []))).alloc ob)).Z C.w.heap.size := fun hz => by have := wf.zlt _ hz; omega
   obtain ⟨a1, a2, a3⟩ := hx.apart hlt hρ hz
   refine ⟨h2.size, a1, (hx.frame _ hlt hρ (by omega)).trans ?_, a2, a3⟩
   show ((C.w.alloc (.deferred (some []))).alloc ob).heap[C.w.heap.size]? = _
   rw [heap_alloc_lt _ _ (by simp)]
   exact heap_alloc_eq _ _
  ·exact (h4.step e2 (fun _ _ h => h)).2 r hr
def finK (rs : List IRes) (σ0 : List O) (v : V) (σ' : List O) : Kt := fun _ env σe => resK rs env σe fun vs =>
 (∃ k n, σ0.length ≤ n ∧ n ≤ σe.length ∧ frz k n σe (retV vs) = v ∧ (frzS k n σe = σ' ∨ (n = σ0.length ∧ (∃ σl, σe = σ0 ++ σl) ∧ σ' = σ0))) ∨ (retV vs = v ∧ σ' = σe)
theorem resK_mono : ∀ {rs : List IRes} {env : Env} {σ : List O} {K K' : List V → Prop}, resK rs env σ K → (∀ vs, K vs → K' vs) → resK rs env σ K'
 | [], _, _, _, _, h, hk => hk _ h
 | .tmp t :: r, env, σ, K, K', h, hk => resK_mono (rs := r) (K := fun vs => K (get env t :: vs)) h (fun vs h => hk _ h)
 | .one t :: r, env, σ, K, K', h, hk => by
  simp only [resK, ld1K] at h ⊢
  split at h
  ·split at h
   ·exact ⟨h.1, h.2.1, resK_mono (rs := r) h.2.2 (fun vs h => hk _ h)⟩
   ·exact h.elim
  ·exact ⟨h.1, resK_mono (rs := r) h.2 (fun vs h => hk _ h)⟩
  ·exact h.elim
 | .many n t :: r, env, σ, K, K', h, hk => by
  simp only [resK, ldAK] at h ⊢
  split at h
  ·split at h
   ·exact ⟨h.1, h.2.1, resK_mono (rs := r) h.2.2 (fun vs h => hk _ h)⟩
   ·exact h.elim
  ·exact ⟨h.1, resK_mono (rs := r) h.2 (fun vs h => hk _ h)⟩
  ·exact h.elim
theorem VR.trunc {C : Cx} {n : Nat} {x : V} {c : Value} (h : VR C x c) (hlt : Lt n x) : VR (C.trunc n) x c := by
 induction h with
 | u c => exact .u c
 | b x => exact .b x
 | i k n => exact .i k n
 | str s => exact .str s
 | np => exact .np
 | p id ver off blk bs h hv => cases hlt with | p _ _ _ hl => exact .p id ver off blk bs (take_get hl h) (take_get hl hv)
 | p0 id ver off v c h1 hv hl => cases hlt with | p _ _ _ hl' => exact .p0 id ver off v c h1 (take_get hl' hv) hl
 | sp cells off blk base cs hz hl h1 hc hv ih =>
  cases hlt with | sp _ _ hl' => exact .sp cells off blk base cs (.inl hz) hl h1 hc (fun j x c hx hc' => ih j x c hx hc' (hl' x (List.mem_of_getElem? hx)))
 | s id ver off len es blk bs at_ cap cc t h hv hlc hb hs ha => cases hlt with | s _ _ _ _ _ hl => exact .s id ver off len es blk bs at_ cap cc t (take_get hl h) (take_get hl hv) hlc hb hs ha
 | s0 id ver off len es v c h1 hv hl => cases hlt with | s _ _ _ _ _ hl' => exact .s0 id ver off len es v c h1 (take_get hl' hv) hl
 | ss0 a cap => exact .ss0 a cap
 | ssn a => exact .ssn a
 | ss cells len full blk base cap cs hz hl h1 hc hv hlc hf ih =>
  cases hlt with | ss _ _ _ hl' => exact .ss cells len full blk base cap cs (.inl hz) hl h1 hc (fun j x c hx hc' => ih j x c hx hc' (hl' x (List.mem_of_getElem? hx))) hlc hf
 | nm => exact .nm
 | m id blk bs h hv => cases hlt with | m _ hl => exact .m id blk bs (take_get hl h) (take_get hl hv)
 | m0 id v c h1 hv hl => cases hlt with | m _ hl' => exact .m0 id v c h1 (take_get hl' hv) hl
 | sm l blk es clock hz hb hl hk hv ihk ihv =>
  cases hlt with | sm _ h1 h2 => exact .sm l blk es clock (.inl hz) hb hl (fun j k v e hj he => ihk j k v e hj he (h1 _ (List.mem_of_getElem? hj))) (fun j k v e hj he => ihv j k v e hj he (h2 _ (List.mem_of_getElem? hj)))
 | nf => exact .nf
 | f fn first cap cf cc hl1 hl2 h1 h2 ih1 ih2 =>
  cases hlt with | f _ _ _ k1 k2 => exact .f fn first cap cf cc hl1 hl2 (fun j x c hx hc => ih1 j x c hx hc (k1 x (List.mem_of_getElem? hx))) (fun j x c hx hc => ih2 j x c hx hc (k2 x (List.mem_of_getElem? hx)))
 | agg cells cs hl h1 hv ih => cases hlt with | agg _ k => exact .agg cells cs hl h1 (fun j x c hx hc => ih j x c hx hc (k x (List.mem_of_getElem? hx)))
 | tup vs cs hl hv ih => cases hlt with | tup _ k => exact .tup vs cs hl (fun j x c hx hc => ih j x c hx hc (k x (List.mem_of_getElem? hx)))
theorem prefix_sound {C0 C : Cx} {σ0 σl : List O} (h0 : R C0 σ0) (h : R C (σ0 ++ σl)) : R (C.trunc σ0.length) σ0 where
 wf := trunc_wf h.wf
 len := by have := h.len; simp only [List.length_append] at this; simp [Cx.trunc]; omega
 ver := fun id o ho => by
  have hlt := (List.getElem?_eq_some_iff.1 ho).1
  exact take_get hlt (h.ver id o (by rw [List.getElem?_append_left hlt]; exact ho))
 obj := fun id o blk bs ho hb => by
  obtain ⟨hlt, hb⟩ := get_take hb
  have hOR := h.obj id o blk bs (by rw [List.getElem?_append_left hlt]; exact ho) hb
  obtain ⟨blk0, bs0, -, -, hOR0⟩ := h0.blk ho
  have hlen := h0.len
  cases hOR with
  | row ver cells cc t hb hl h1 hv =>
   cases hOR0 with
   | row _ _ cc0 t0 hb0 hl0 h10 hv0 =>
    refine .row ver cells cc t hb hl h1 (fun j x c hx hc => (hv j x c hx hc).trunc ?_)
    have hj := (List.getElem?_eq_some_iff.1 hx).1
    have := (hv0 j x _ hx (Array.getElem?_eq_getElem (by omega))).lt
    rw [hlen]; exact this
  | map es clock ces hb hl hv =>
   cases hOR0 with
   | map _ _ ces0 hb0 hl0 hv0 =>
    refine .map es clock ces hb hl (fun j b k v e hj he => ?_)
    have hlt' := (List.getElem?_eq_some_iff.1 hj).1
    obtain ⟨-, k1, k2⟩ := hv0 j b k v _ hj (Array.getElem?_eq_getElem (by omega))
    obtain ⟨e1, e2, e3⟩ := hv j b k v e hj he
    exact ⟨e1, e2.trunc (by rw [hlen]; exact k1.lt), e3.trunc (by rw [hlen]; exact k2.lt)⟩
  | it mid since seen stepped mb hz hm hb =>
   cases hOR0 with
   | it _ _ _ _ mb0 _ hm0 _ => exact .it mid since seen stepped mb hz (hm.trunc (by rw [hlen]; exact hm0.lt)) hb
  | dead ver => exact .dead ver
theorem leaves_sound {P : Program} {fn : Func} {tmps : Array Value} {Rr : Ending → World → Prop} {C0 : Cx} (wf0 : Wf C0) {σ : List O} {env : Env} : ∀ (rs : List Nat) {C : Cx}, R C σ → Ext C0 C → (∀ t, VR C (get env t) (tmps.getD t undef)) → Marks C0 C rs →
  (∀ C, R C σ → Ext C0 C → (∀ t, VR C (get env t) (tmps.getD t undef)) → ∃ v, (results fn tmps).run P C.w = .ok v C.w ∧ Rr (.returned v) C.w) → LeavesInM Fence.wide 0 P fn tmps Rr (rs.map mkMark) .returning C.w
 | [], C, h, hx, he, _, fin => by
  simp only [List.map_nil, LeavesInM, LeavesIn]
  exact fin C h hx he
 | r :: rs, C, h, hx, he, hm, fin => by
  obtain ⟨h1, h2, h3, h4, h5⟩ := hm.2 r (List.mem_cons_self ..)
  obtain ⟨hR, hxA, hr⟩ := h.put h2 h4 h5 (.deferred none)
  simp only [List.map_cons, LeavesInM]
  refine ⟨by simp, .inl ⟨r, _, rfl, run_takeDeferred h3, ?_⟩⟩
  have hnd := List.nodup_cons.1 hm.1
  have hm' : Marks C0 C rs := ⟨hnd.2, fun r' hr' => hm.2 r' (List.mem_cons_of_mem _ hr')⟩
  have hx' : Ext C0 (C.world (C.w.putObj r (.deferred none))) := by
   have := (hx.toA (fun _ => False)).trans hxA (fun b hb => .inr (by rw [hb]; exact h1))
   exact this.toExt (fun _ h => h.elim)
  exact leaves_sound wf0 rs (C := C.world (C.w.putObj r (.deferred none))) hR hx' (fun t => (he t).extA hxA h.wf (fun b hb => hb ▸ h5)) (hm'.step hxA (fun r' hr' hE => hnd.1 (hE ▸ hr'))) fin
theorem entry_env {C : Cx} : ∀ {args : List V} {cs : List Value} {i : Nat} {t : Array Value}, VRl C args cs → (∀ (j : Nat) (c : Value), cs[j]? = some c → t[i + j]? = some c) → ∀ s, VR C (get (entry i args) s) (t.getD s undef)
 | [], cs, i, t, _, _, s => .u _
 | v :: args, [], i, t, h, _, s => by have := h.1; simp at this
 | v :: args, c :: cs, i, t, h, ht, s => by
  simp only [entry, get]
  split
  ·rename_i hs
   subst hs
   have := ht 0 c rfl
   rw [Nat.add_zero] at this
   rw [Array.getD_eq_getD_getElem?, this]
   exact h.2 0 v c rfl rfl
  ·exact entry_env (C := C) (cs := cs) ⟨by have := h.1; simpa using this, fun j x d hx hd => h.2 (j + 1) x d (by simpa using hx) (by simpa using hd)⟩
    (fun j d hd => by have := ht (j + 1) d (by simpa using hd); rw [← this]; congr 1; omega) s
theorem enter_tmps {cargs : List Value} {N n : Nat} (hN : N ≤ n) : N ≤ (cargs.toArray ++ Array.replicate (n - cargs.toArray.size) undef).size := by
 simp; omega
theorem FSpec_of_ab {P : Program} {It : ItTy} (hm : P.follows .mixedOrders = true) (hIt : ItOK P It) {f : FuncId} {fn : Func} {c : Code} {N : Nat} {ex : List Nat} {ic : IC} {rs : List IRes} {args : List V} {σ : List O} {v : V} {σ' : List O}
  (hf : P.funcs[f]? = some fn) (hn : fn.name ≠ "runtime.NumGoroutine") (hb : fn.body = some c) (hN : N ≤ fn.ntmps) (htr : trC P N ex c = some ic.erase) (hrs : trRes P fn.results.toList = some rs)
  (h : ab P noY It σ.length ic (finK rs σ v σ') [] (finK rs σ v σ') (some 0) (entry 0 args) σ) : FSpec P f args σ v σ' := by
 refine ⟨⟨fn, hf, hn, by rw [hb]; rfl⟩, fun C cargs hR hargs => ?_⟩
 refine callsIn_of_wp_marks hf hb trivial ?_
 have hlen : C.vs.length = σ.length := hR.len.symm
 have hInv := PInv_ok hR.wf
 rw [hlen] at hInv
 have fin : ∀ a w, Lift (PInv C) N (finK rs σ v σ') a w → LeavesInM Fence.wide 0 P fn a.tmps (fun e w' => ∃ C' cv, C'.w = w' ∧ e = .returned cv ∧ R C' σ' ∧ Ext C C' ∧ VR C' v cv) a.defers .returning w := by
  rintro a w ⟨C1, md, env, σe, rfl, h1, ⟨-, h2, ms, h3, h4⟩, -, h5, hk⟩
  rw [h3]
  refine leaves_sound hR.wf ms h1 h2 h5 h4 (fun C2 hR2 hx2 he2 => ?_)
  obtain ⟨vs, cs, r1, r2, r34⟩ := resK_sound (a := { tmps := a.tmps, defers := [] }) hR2 he2 hrs hk
  obtain ⟨cv, r5, r6⟩ := results_run r1
  have hle : σ.length ≤ σe.length := by
   have := (hx2.toA (fun _ => False)).len
   have := hR2.len
   omega
  rcases r34 with ⟨k, n, hn1, hn2, r3, r4⟩ | ⟨r3, r4⟩
  ·refine ⟨cv, r5, C2.trunc n, cv, rfl, rfl, ?_, trunc_ext hx2 hR.wf (by omega), ?_⟩
   ·rcases r4 with r4 | ⟨rfl, ⟨σl, rfl⟩, rfl⟩
    ·rw [← r4]; exact frzS_sound hR2 k hn2
    ·exact prefix_sound hR hR2
   ·rw [← r3]; exact frz_sound hR2 k (r6 r2)
  ·refine ⟨cv, r5, C2, cv, rfl, rfl, ?_, hx2, ?_⟩
   ·rw [r4]; exact hR2
   ·rw [← r3]; exact r6 r2
 refine ab_sound (E := []) (K := finK rs σ v σ') (Rt := finK rs σ v σ') (Q := bodyPostM Fence.wide 0 P fn _) hm hIt c (.inl rfl) hInv PInv_rfn (.inl rfl) noY_ok htr (fun a w hl => fin a w hl) (fun id a w hl => by obtain ⟨_, _, _, _, _, _, _, _, _, hl⟩ := hl; exact False.elim hl) (fun a w hl => fin a w hl) ?_
 refine ⟨C, some 0, entry 0 args, σ, rfl, hR, ⟨rfl, Ext.refl C, [], rfl, List.nodup_nil, by simp⟩, enter_tmps hN, fun t => ?_, h⟩
 refine entry_env hargs (fun j d hd => ?_) t
 rw [Nat.zero_add, Array.getElem?_append_left (by have := (List.getElem?_eq_some_iff.1 hd).1; simpa using this)]
 simpa using hd
def finQ (rs : List IRes) (σ0 : List O) (Q : V → List O → Prop) : Kt := fun _ env σe => LtAll σe → resK rs env σe fun vs => ∃ v σ', Q v σ' ∧
 ((∃ k n, σ0.length ≤ n ∧ n ≤ σe.length ∧ frz k n σe (retV vs) = v ∧ (frzS k n σe = σ' ∨ (n = σ0.length ∧ (∃ σl, σe = σ0 ++ σl) ∧ σ' = σ0))) ∨ (retV vs = v ∧ σ' = σe))
theorem FSpecQ_of_ab {P : Program} {It : ItTy} (hm : P.follows .mixedOrders = true) (hIt : ItOK P It) {f : FuncId} {fn : Func} {c : Code} {N : Nat} {ex : List Nat} {ic : IC} {rs : List IRes} {args : List V} {σ : List O} {Q : V → List O → Prop}
  (hf : P.funcs[f]? = some fn) (hn : fn.name ≠ "runtime.NumGoroutine") (hb : fn.body = some c) (hN : N ≤ fn.ntmps) (htr : trC P N ex c = some ic.erase) (hrs : trRes P fn.results.toList = some rs)
  (h : ab P noY It σ.length ic (finQ rs σ Q) [] (finQ rs σ Q) (some 0) (entry 0 args) σ) : FSpecQ P f args σ Q := by
 refine ⟨⟨fn, hf, hn, by rw [hb]; rfl⟩, fun C cargs hR hargs => ?_⟩
 refine callsIn_of_wp_marks hf hb trivial ?_
 have hlen : C.vs.length = σ.length := hR.len.symm
 have hInv := PInv_ok hR.wf
 rw [hlen] at hInv
 have fin : ∀ a w, Lift (PInv C) N (finQ rs σ Q) a w → LeavesInM Fence.wide 0 P fn a.tmps (fun e w' => ∃ C' cv v σ', Q v σ' ∧ C'.w = w' ∧ e = .returned cv ∧ R C' σ' ∧ Ext C C' ∧ VR C' v cv) a.defers .returning w := by
  rintro a w ⟨C1, md, env, σe, rfl, h1, ⟨-, h2, ms, h3, h4⟩, -, h5, hk⟩
  rw [h3]
  refine leaves_sound hR.wf ms h1 h2 h5 h4 (fun C2 hR2 hx2 he2 => ?_)
  obtain ⟨vs, cs, r1, r2, r34⟩ := resK_sound (a := { tmps := a.tmps, defers := [] }) hR2 he2 hrs (hk hR2.ltAll)
  obtain ⟨cv, r5, r6⟩ := results_run r1
  have hle : σ.length ≤ σe.length := by
   have := (hx2.toA (fun _ => False)).len
   have := hR2.len
   omega
  obtain ⟨v, σ', hq, r34⟩ := r34
  rcases r34 with ⟨k, n, hn1, hn2, r3, r4⟩ | ⟨r3, r4⟩
  ·refine ⟨cv, r5, C2.trunc n, cv, v, σ', hq, rfl, rfl, ?_, trunc_ext hx2 hR.wf (by omega), ?_⟩
   ·rcases r4 with r4 | ⟨rfl, ⟨σl, rfl⟩, rfl⟩
    ·rw [← r4]; exact frzS_sound hR2 k hn2
    ·exact prefix_sound hR hR2
   ·rw [← r3]; exact frz_sound hR2 k (r6 r2)
  ·refine ⟨cv, r5, C2, cv, v, σ', hq, rfl, rfl, ?_, hx2, ?_⟩
   ·rw [r4]; exact hR2
   ·rw [← r3]; exact r6 r2
 refine ab_sound (E := []) (K := finQ rs σ Q) (Rt := finQ rs σ Q) (Q := bodyPostM Fence.wide 0 P fn _) hm hIt c (.inl rfl) hInv PInv_rfn (.inl rfl) noY_ok htr (fun a w hl => fin a w hl) (fun id a w hl => by obtain ⟨_, _, _, _, _, _, _, _, _, hl⟩ := hl; exact False.elim hl) (fun a w hl => fin a w hl) ?_
 refine ⟨C, some 0, entry 0 args, σ, rfl, hR, ⟨rfl, Ext.refl C, [], rfl, List.nodup_nil, by simp⟩, enter_tmps hN, fun t => ?_, h⟩
 refine entry_env hargs (fun j d hd => ?_) t
 rw [Nat.zero_add, Array.getElem?_append_left (by have := (List.getElem?_eq_some_iff.1 hd).1; simpa using this)]
 simpa using hd
def finI (n0 : Nat) (J : List O → Prop) (Dn : Nat → List O → Prop) : Kt := fun md _ σe => ∃ k n, n0 ≤ n ∧ n ≤ σe.length ∧ (match md with | none => J (frzS k n σe) | some j => Dn j (frzS k n σe))
def noIt : ItTy := fun _ _ _ _ _ _ => False
theorem noIt_ok {P : Program} : ItOK P noIt := fun _ _ _ _ _ _ h => h.elim
def yieldsK (l N : Nat) (X : Nat → List V → List O → List O → Prop) (J Dn : Nat → List O → Prop) (l' : Nat) (args : List V) (σ' : List O) (Kont : Md → V → List O → Prop) : Prop :=
 l' = l ∧ ∃ i s1 g, σ' = s1 ++ g ∧ i < N ∧ X i args s1 g ∧ J i s1 ∧ (∀ σ'', J (i + 1) σ'' → Kont none (.b true) σ'') ∧ (∀ j σ'', Dn j σ'' → Kont (some j) (.b false) σ'')
theorem It_of_ab {P : Program} (hm : P.follows .mixedOrders = true) {f : FuncId} {fn : Func} {c : Code} {N : Nat} {Ny : Nat} {X : Nat → List V → List O → List O → Prop} {ex : List Nat} {ic : IC} {first cap : List V} {Pre : List O → Prop}
  (hf : P.funcs[f]? = some fn) (hn : fn.name ≠ "runtime.NumGoroutine") (hb : fn.body = some c) (hN : N ≤ fn.ntmps) (htr : trC P N ex c = some ic.erase) (hrs : fn.results = #[])
  (h : ∀ (J Dn : Nat → List O → Prop) (σ : List O) (l : Nat), (∀ i σ, J i σ → Pre σ) → J 0 σ → LtAll σ →
   ab P (yieldsK l Ny X J Dn) noIt σ.length ic (finI σ.length (J Ny) Dn) [] (finI σ.length (J Ny) Dn) none (entry 0 (first ++ [V.f (.yield l) [] []] ++ cap)) σ) :
  (∃ fn, P.funcs[f]? = some fn ∧ fn.name ≠ "runtime.NumGoroutine" ∧ fn.body.isSome = true) ∧
  ∀ (Inv : Md → Cx → List Deferred → Prop) (Y : Yield) (J Dn : Nat → List O → Prop) (C : Cx) (σ : List O) (l : Nat) (cargs : List Value), InvOK σ.length Inv → YOK P Fence.wide Inv Y → R C σ → Inv none C [] → J 0 σ → (∀ i σ, J i σ → Pre σ) →
   VRl C (first ++ [V.f (.yield l) [] []] ++ cap) cargs →
   (∀ i x σ' g' (Kont : Md → V → List O → Prop), i < Ny → X i x σ' g' → J i σ' → (∀ σ'', J (i + 1) σ'' → Kont none (.b true) σ'') → (∀ j σ'', Dn j σ'' → Kont (some j) (.b false) σ'') → Y l x (σ' ++ g') Kont) →
   CallsIn Fence.wide 0 P f cargs.toArray C.w (fun e w' => ∃ C' cv md σ', C'.w = w' ∧ e = .returned cv ∧ R C' σ' ∧ Inv md C' [] ∧ (match md with | none => J Ny σ' | some j => Dn j σ')) := by
 refine ⟨⟨fn, hf, hn, by rw [hb]; rfl⟩, fun Inv Y J Dn C σ l cargs hI hY hR hinv hJ hJP hargs hYJ => ?_⟩
 obtain ⟨Rr, hRr⟩ : ∃ Rr : Ending → World → Prop, Rr = (fun e w' => ∃ C' cv md σ', C'.w = w' ∧ e = .returned cv ∧ R C' σ' ∧ Inv md C' [] ∧ (match md with | none => J Ny σ' | some j => Dn j σ')) := ⟨_, rfl⟩
 rw [← hRr]
 refine callsIn_of_wp hf hb trivial ?_
 let Inv' : Md → Cx → List Deferred → Prop := fun md C D => D = [] ∧ Inv md C D
 have hI' : InvOK σ.length Inv' := {
  ext := fun {md C C' D} h wf x => ⟨h.1, hI.ext h.2 wf x⟩
  trunc := fun {md C D n} h wf hn => ⟨h.1, hI.trunc h.2 wf hn⟩
  le := fun {md C D} h => hI.le h.2 }
 have hY' : YOK P Fence.wide Inv' (yieldsK l Ny X J Dn) := by
  rintro l' args σ' Kont C D cargs ⟨rfl, h1⟩ h2 h3 ⟨rfl, i, s1, g1, rfl, k0, k1, k2, k3, k4⟩
  obtain ⟨fn', tmps, asg, body, w', r1, r2⟩ := hY l' args _ Kont C [] cargs h1 h2 h3 (hYJ i args s1 g1 Kont k0 k1 k2 k3 k4)
  refine ⟨fn', tmps, asg, body, w', r1, r2.mono ?_⟩
  rintro e w'' ⟨md', C', b, σ'', e1, e2, e3, e4, e5, e6⟩
  exact ⟨md', C', b, σ'', e1, e2, e3, e4, ⟨rfl, e5⟩, e6⟩
 have fin : ∀ a w, Lift Inv' N (finI σ.length (J Ny) Dn) a w → a.defers = [] ∧ ∃ v, (results fn a.tmps).run P w = .ok v w ∧ Rr (.returned v) w := by
  rw [hRr]
  rintro a w ⟨C1, md, env, σe, rfl, h1, ⟨h2, h3⟩, -, h5, k, n, hn1, hn2, hk⟩
  refine ⟨h2, .tuple #[], ?_, C1.trunc n, _, md, frzS k n σe, rfl, rfl, frzS_sound h1 k hn2, ?_, by cases md <;> exact hk⟩
  ·simp [results, hrs]
  ·rw [h2] at h3; exact hI.trunc h3 h1.wf hn1
 refine ab_sound (E := []) (K := finI σ.length (J Ny) Dn) (Rt := finI σ.length (J Ny) Dn) (Q := bodyPost P fn Rr) hm noIt_ok c (.inl rfl) hI' (fun ⟨_, _, _, _, _, _, h⟩ => h.elim) (.inl rfl) hY' htr (fun a w hl => fin a w hl) (fun id a w hl => by obtain ⟨_, _, _, _, _, _, _, _, _, hl⟩ := hl; exact False.elim hl) (fun a w hl => fin a w hl) ?_
 refine ⟨C, none, entry 0 (first ++ [V.f (.yield l) [] []] ++ cap), σ, rfl, hR, ⟨rfl, hinv⟩, enter_tmps hN, fun t => ?_, h J Dn σ l hJP hJ hR.ltAll⟩
 refine entry_env hargs (fun j d hd => ?_) t
 rw [Nat.zero_add, Array.getElem?_append_left (by have := (List.getElem?_eq_some_iff.1 hd).1; simpa using this)]
 simpa using hd
def finY (rs : List IRes) (n0 : Nat) (J : List O → Prop) (Dn : Nat → List O → Prop) : Kt := fun md env σe => ∃ k n, n0 ≤ n ∧ n ≤ σe.length ∧
 resK rs env σe fun vs => ∃ b, vs = [.b b] ∧ (match md with | none => b = true ∧ J (frzS k n σe) | some j => b = false ∧ Dn j (frzS k n σe))
theorem YS_of_ab {P : Program} (hm : P.follows .mixedOrders = true) {f : FuncId} {fn : Func} {c : Code} {N : Nat} {Ny : Nat} {X : Nat → List V → List O → List O → Prop} {ex : List Nat} {ic : IC} {rs : List IRes} {args : List V} {s1 g : List O} {n0 l : Nat} {Pre : List O → Prop}
  (hf : P.funcs[f]? = some fn) (hn : fn.name ≠ "runtime.NumGoroutine") (hb : fn.body = some c) (hN : N ≤ fn.ntmps) (htr : trC P N ex c = some ic.erase) (hrs : trRes P fn.results.toList = some rs)
  (h : ∀ (J Dn : Nat → List O → Prop), (∀ i σ, J i σ → Pre σ) → J 0 s1 → LtAll (s1 ++ g) →
   ab P (yieldsK l Ny X J Dn) noIt n0 ic (finY rs n0 (J Ny) Dn) [] (finY rs n0 (J Ny) Dn) none (entry 0 args) (s1 ++ g)) : YS P f args s1 g n0 l Ny X Pre := by
 refine ⟨⟨fn, hf, hn, by rw [hb]; rfl⟩, fun Inv Y J Dn C cargs hI hY hR hinv hJ hJP hargs hYJ => ?_⟩
 obtain ⟨Rr, hRr⟩ : ∃ Rr : Ending → World → Prop, Rr = (fun e w' => ∃ C' b md σ', C'.w = w' ∧ e = .returned (.bool b) ∧ R C' σ' ∧ (∀ v c, v.pure = true → VR C v c → VR C' v c) ∧ Inv md C' [] ∧
   (match md with | none => b = true ∧ J Ny σ' | some j => b = false ∧ Dn j σ')) := ⟨_, rfl⟩
 suffices key : CallsIn Fence.wide 0 P f cargs.toArray C.w Rr by rw [hRr] at key; exact key
 refine callsIn_of_wp hf hb trivial ?_
 let Inv' : Md → Cx → List Deferred → Prop := fun md C1 D => D = [] ∧ Inv md C1 D ∧ ∀ v c, v.pure = true → VR C v c → VR C1 v c
 have hI' : InvOK n0 Inv' := {
  ext := fun {md C1 C2 D} h wf x => ⟨h.1, hI.ext h.2.1 wf x, fun v c hp hv => (h.2.2 v c hp hv).ext x wf⟩
  trunc := fun {md C1 D n} h wf hn => ⟨h.1, hI.trunc h.2.1 wf hn, fun v c hp hv => (h.2.2 v c hp hv).pure (C' := C1.trunc n) (fun b hb => Or.inl hb) rfl hp⟩
  le := fun {md C D} h => hI.le h.2.1 }
 have hY' : YOK P Fence.wide Inv' (yieldsK l Ny X J Dn) := by
  rintro l' args σ' Kont C1 D cargs ⟨rfl, h1, h1'⟩ h2 h3 ⟨rfl, i, s2, g2, rfl, k0, k1, k2, k3, k4⟩
  obtain ⟨fn', tmps, asg, body, w', r1, r2⟩ := hY l' args _ Kont C1 [] cargs h1 h2 h3 (hYJ i args s2 g2 Kont k0 k1 k2 k3 k4)
  refine ⟨fn', tmps, asg, body, w', r1, r2.mono ?_⟩
  rintro e w'' ⟨md', C', b, σ'', e1, e2, e3, e4, e5, e6⟩
  exact ⟨md', C', b, σ'', e1, e2, e3, e4, ⟨rfl, e5, fun v c hp hv => e4 v c (h1' v c hp hv)⟩, e6⟩
 have fin : ∀ a w, Lift Inv' N (finY rs n0 (J Ny) Dn) a w → a.defers = [] ∧ ∃ v, (results fn a.tmps).run P w = .ok v w ∧ Rr (.returned v) w := by
  rw [hRr]
  rintro a w ⟨C1, md, env, σe, rfl, h1, ⟨h2, h3, h4⟩, -, h5, k, n, hn1, hn2, hk⟩
  obtain ⟨vs, cs, r1, r2, b, rfl, r3⟩ := resK_sound (a := a) h1 h5 hrs hk
  obtain ⟨cv, r5, r6⟩ := results_run r1
  have hcv : cv = .bool b := by
   have := r6 r2
   simp only [retV] at this
   cases this
   rfl
  subst hcv
  refine ⟨h2, _, r5, C1.trunc n, b, md, frzS k n σe, rfl, rfl, frzS_sound h1 k hn2, fun v c hp hv => (h4 v c hp hv).pure (C' := C1.trunc n) (fun b hb => Or.inl hb) rfl hp, ?_, by cases md <;> exact r3⟩
  rw [h2] at h3
  exact hI.trunc h3 h1.wf hn1
 refine ab_sound (E := []) (K := finY rs n0 (J Ny) Dn) (Rt := finY rs n0 (J Ny) Dn) (Q := bodyPost P fn Rr) hm noIt_ok c (.inl rfl) hI' (fun ⟨_, _, _, _, _, _, h⟩ => h.elim) (.inl rfl) hY' htr (fun a w hl => fin a w hl) (fun id a w hl => by obtain ⟨_, _, _, _, _, _, _, _, _, hl⟩ := hl; exact False.elim hl) (fun a w hl => fin a w hl) ?_
 refine ⟨C, none, entry 0 args, s1 ++ g, rfl, hR, ⟨rfl, hinv, fun v c _ hv => hv⟩, enter_tmps hN, fun t => ?_, h J Dn hJP hJ hR.ltAll⟩
 refine entry_env hargs (fun j d hd => ?_) t
 rw [Nat.zero_add, Array.getElem?_append_left (by have := (List.getElem?_eq_some_iff.1 hd).1; simpa using this)]
 simpa using hd
end Go.Ab
end
end
