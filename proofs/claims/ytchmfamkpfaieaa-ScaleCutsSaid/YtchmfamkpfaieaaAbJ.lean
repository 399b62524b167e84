/- The abstract layer, part 19: a region that draws its order is sound. -/
import Derived.Test.YtchmfamkpfaieaaAbI
set_option linter.unusedVariables false
set_option linter.unusedSimpArgs false
namespace Go.Ab
open Go

section
variable {P : Program} {F : Fence} {n0 N : Nat} {Inv : Md → Cx → List Deferred → Prop}

theorem trSs_get {ex : List Nat} {ops : Array Oper} : ∀ {l : List Oper} {ss : List IS}, trSs P N ex ops l = some ss → ss.length = l.length ∧ ∀ (i : Nat) (o : Oper), l[i]? = some o → ∃ s, ss[i]? = some s ∧ trS P N ex ops o = some s
  | [], ss, h => by simp only [trSs, Option.some.injEq] at h; subst h; simp
  | o :: l, ss, h => by
    simp only [trSs] at h
    split at h
    · rename_i s ss' hs hss
      cases h
      obtain ⟨h1, h2⟩ := trSs_get hss
      refine ⟨by simp [h1], fun i o' hi => ?_⟩
      cases i with
      | zero => simp at hi; subst hi; exact ⟨s, rfl, hs⟩
      | succ i => exact h2 i o' (by simpa using hi)
    · cases h

theorem trS_dst {ex : List Nat} {ops : Array Oper} {o : Oper} {s : IS} (h : trS P N ex ops o = some s) : s.dst = o.dst := by
  unfold trS at h
  split at h <;> cases h <;> rfl

theorem drawOK_spec {es : List (List Nat)} {ss : List IS} {bs : List Nat} (h : drawOK es ss bs = true) {i : Nat} {s : IS} (hs : ss[i]? = some s) :
    s.calm = true ∧ (∀ e ∈ es.getD i [], e < i) ∧ ∀ j s', ss[j]? = some s' → i ≠ j →
      (∀ d, s'.dst = some d → (d ∈ s.reads ∨ s.dst = some d) → tied bs i j = true) ∧ (s'.loud = true → s.loud = true → tied bs i j = true) ∧ (s'.loud = true → s.loud = false → i < j ∨ tied bs i j = true) := by
  unfold drawOK at h
  have hi := List.all_eq_true.1 h i (List.mem_range.2 (List.getElem?_eq_some_iff.1 hs).1)
  rw [hs] at hi
  simp only [Bool.and_eq_true, List.all_eq_true, decide_eq_true_eq] at hi
  refine ⟨hi.1.1, hi.1.2, fun j s' hj hne => ?_⟩
  have hj' := hi.2 j (List.mem_range.2 (List.getElem?_eq_some_iff.1 hj).1)
  rw [hj] at hj'
  simp only [Bool.or_eq_true, beq_iff_eq, hne, false_or, Bool.and_eq_true] at hj'
  obtain ⟨h1, h2⟩ := hj'
  refine ⟨fun d hd hor => ?_, fun hl hls => ?_, fun hl hls => ?_⟩
  · rw [hd] at h1
    simp only [Bool.or_eq_true, Bool.not_eq_true'] at h1
    rcases h1 with h1 | h1
    · exfalso
      simp only [Bool.or_eq_false_iff, beq_eq_false_iff_ne] at h1
      rcases hor with h3 | h3
      · have := h1.1; simp [h3] at this
      · exact h1.2 h3
    · exact h1
  · rw [hl, hls] at h2
    simpa using h2
  · rw [hl, hls] at h2
    simpa using h2

theorem drawn_quiet {C : Cx} {σ : List O} (h : R C σ) : R (C.world { C.w with drawn := C.w.drawn + 1 }) σ ∧ Ext C (C.world { C.w with drawn := C.w.drawn + 1 }) :=
  h.quiet rfl rfl rfl (Nat.le_refl _) (fun _ _ => rfl)

theorem drw_sound (hm : P.follows .mixedOrders = true) (hF : FOK F) (hI : InvOK n0 Inv) {ops : Array Oper} {ss : List IS} {ex : List Nat} (htr : trSs P N ex ops ops.toList = some ss)
    (hok : drawOK (ops.toList.map trEdges) ss (befores (ops.toList.map trEdges) []) = true) {id : Nat} {K : Kt} {Q : Exit → Act → World → Prop} (hQ : ∀ a w, Lift Inv N K a w → Q .normal a w) {a : Act} {w : World}
    (hl : Lift Inv N (abDs P noY n0 (ss.zip ((List.range ss.length).map (usOf ss (befores (ops.toList.map trEdges) [])))) 0 [] K) a w) : (Code.region id ops true).wpIn F 0 P Q a w := by
  obtain ⟨C, md, env, σ, rfl, hR, hinv, hN, he, hk⟩ := hl
  refine wpIn_region_any hm ?_
  obtain ⟨hR1, hx1⟩ := drawn_quiet hR
  generalize hes : ops.toList.map trEdges = es at *
  generalize hbs : befores es [] = bs at *
  obtain ⟨hlen, hget⟩ := trSs_get htr
  have hn : ss.length = ops.size := by simpa using hlen
  have hesl : es.length = ss.length := by rw [← hes, hlen]; simp
  have hzip : ∀ (i : Nat) (s : IS), ss[i]? = some s → (ss.zip ((List.range ss.length).map (usOf ss bs)))[i]? = some (s, usOf ss bs i) := by
    intro i s hs
    have hlt := (List.getElem?_eq_some_iff.1 hs).1
    rw [List.getElem?_zip_eq_some]
    exact ⟨hs, by simp [hlt]⟩
  have hzl : (ss.zip ((List.range ss.length).map (usOf ss bs))).length = ss.length := by simp
  have hcalm : ∀ p ∈ ss.zip ((List.range ss.length).map (usOf ss bs)), p.1.calm = true := by
    intro p hp
    obtain ⟨i, hi⟩ := List.mem_iff_getElem?.1 hp
    obtain ⟨s, u⟩ := p
    rw [List.getElem?_zip_eq_some] at hi
    exact (drawOK_spec hok hi.1).1
  obtain ⟨ev, hv, vv, rfl, rfl, hd, -, hkend⟩ := abD_data _ 0 [] md env σ hcalm (by simp) hk
  rw [Nat.zero_add, hzl] at hkend
  have hstep : ∀ (i : Nat) (s : IS), ss[i]? = some s → ev (i + 1) = put (ev i) s.dst (vv i) ∧ Pt P n0 s (ev i) (hv i) (vv i) (hv (i + 1)) ∧ (s.loud = false → hv (i + 1) = hv i) := by
    intro i s hs
    have := hd.step i s _ (hzip i s hs)
    simpa using this
  have hagain : ∀ (i : Nat) (s : IS) (m : Nat), ss[i]? = some s → i < m → m < ss.length → (usOf ss bs i).contains m = true → Pt P n0 s (ev i) (hv (m + 1)) (vv i) (hv (m + 1)) := by
    intro i s m hs him hm hu
    have := hd.again i s _ m (hzip i s hs) him (by rw [hzl]; exact hm) (by simpa using hu)
    simpa using this
  -- the text's order, as a set of all
  have htextE : ∀ i, i ≤ ss.length → ∀ t, get (envT ss ev vv (fun _ => true) i) t = get (ev i) t := by
    intro i
    induction i with
    | zero => intro _ t; rfl
    | succ i ih =>
      intro hi t
      have hlt : i < ss.length := by omega
      have hs := List.getElem?_eq_getElem hlt
      have hda : dstAt ss i = (ss[i]).dst := by simp [dstAt, hs]
      simp only [envT, if_true]
      rw [(hstep i _ hs).1, hda]
      cases (ss[i]).dst with
      | none => exact ih (by omega) t
      | some d => rw [get_put, get_put, ih (by omega) t]
  have htextH : ∀ i, i ≤ ss.length → hT ss hv (fun _ => true) i = hv i := by
    intro i
    induction i with
    | zero => intro _; rfl
    | succ i ih =>
      intro hi
      have hlt : i < ss.length := by omega
      have hs := List.getElem?_eq_getElem hlt
      simp only [hT, Bool.true_and]
      split
      · rfl
      · rename_i hl
        rw [ih (by omega), (hstep i _ hs).2.2 (by simpa [loudAt, hs] using hl)]
  have hback : ∀ (i : Nat) (l : List Nat), es[i]? = some l → ∀ e ∈ l, e < i := by
    intro i l hi e hel
    have hlt : i < ss.length := by rw [← hesl]; exact (List.getElem?_eq_some_iff.1 hi).1
    exact (drawOK_spec hok (List.getElem?_eq_getElem hlt)).2.1 e (by simpa [List.getD, hi] using hel)
  -- the edges of an operation
  have hedge : ∀ (i : Nat) (o : Oper), ops[i]? = some o → es[i]? = some (trEdges o) := by
    intro i o ho
    rw [← hes, List.getElem?_map, show ops.toList[i]? = some o by simpa using ho]; rfl
  have main : ∀ (fuel : Nat) (listed : Array Bool) (a : Act) (w : World), listed.size = ss.length → (List.range ss.length).countP (fun i => !listed.getD i true) ≤ fuel →
      (∀ (i : Nat) (l : List Nat), listed.getD i false = true → es[i]? = some l → ∀ e ∈ l, listed.getD e false = true) →
      (∃ C, C.w = w ∧ R C (hT ss hv (fun i => listed.getD i false) ss.length) ∧ Inv md C a.defers ∧ N ≤ a.tmps.size ∧ ∀ t, VR C (get (envT ss ev vv (fun i => listed.getD i false) ss.length) t) (a.tmps.getD t undef)) →
      wpAnyIn F 0 P .any ops Q fuel listed a w := by
    intro fuel
    have hdone : ∀ (listed : Array Bool) (a : Act) (w : World), listed.size = ss.length → Region.ready .any ops listed = [] →
        (∃ C, C.w = w ∧ R C (hT ss hv (fun i => listed.getD i false) ss.length) ∧ Inv md C a.defers ∧ N ≤ a.tmps.size ∧ ∀ t, VR C (get (envT ss ev vv (fun i => listed.getD i false) ss.length) t) (a.tmps.getD t undef)) → Q .normal a w := by
      intro listed a w hsz hready hst
      have hall : ∀ i, i < ss.length → listed.getD i false = true := by
        intro i
        induction i using Nat.strongRecOn with
        | _ i ih =>
          intro hi
          cases hli : listed.getD i false with
          | true => rfl
          | false =>
            exfalso
            have hio : i < ops.size := by omega
            have ho : ops[i]? = some ops[i] := Array.getElem?_eq_getElem hio
            have : i ∈ Region.ready .any ops listed := mem_ready.2 ⟨by
              have hl2 : i < listed.size := by omega
              simp [Array.getD, hl2] at hli ⊢; exact hli, _, ho, fun e hea hb => by
              have hel : e.on ∈ trEdges ops[i] := List.mem_map.2 ⟨e, List.mem_filter.2 ⟨by simpa using hea, hb⟩, rfl⟩
              have hlt := hback i _ (hedge i _ ho) e.on hel
              exact ih e.on hlt (by omega)⟩
            rw [hready] at this
            cases this
      obtain ⟨C, rfl, h1, h2, h3, h4⟩ := hst
      have hE : ∀ t, get (envT ss ev vv (fun i => listed.getD i false) ss.length) t = get (ev ss.length) t := fun t => by
        rw [envT_below (S' := fun _ => true) (fun j hj _ => hall j hj)]
        exact htextE _ (Nat.le_refl _) t
      have hH : hT ss hv (fun i => listed.getD i false) ss.length = hv ss.length := by
        rw [hT_below (S' := fun _ => true) (fun j hj _ => hall j hj)]
        exact htextH _ (Nat.le_refl _)
      exact hQ a C.w ⟨C, md, ev ss.length, hv ss.length, rfl, by rw [← hH]; exact h1, h2, h3, fun t => by rw [← hE t]; exact h4 t, hkend⟩
    induction fuel with
    | zero =>
      intro listed a w hsz hc hcl hst
      have hready : Region.ready .any ops listed = [] := by
        refine List.eq_nil_iff_forall_not_mem.2 fun i hi => ?_
        obtain ⟨h1, o, ho, -⟩ := mem_ready.1 hi
        have hio : i < ops.size := (Array.getElem?_eq_some_iff.1 ho).1
        have h0 : (List.range ss.length).countP (fun i => !listed.getD i true) = 0 := by omega
        have := List.countP_eq_zero.1 h0 i (List.mem_range.2 (by omega))
        simp only [h1, Bool.not_false, not_true_eq_false] at this
      exact ⟨hready, hdone listed a w hsz hready hst⟩
    | succ fuel ih =>
      intro listed a w hsz hc hcl hst
      refine ⟨fun hready => hdone listed a w hsz hready hst, fun i hi => ?_⟩
      obtain ⟨h1, o, ho, hed⟩ := mem_ready.1 hi
      have hio : i < ops.size := (Array.getElem?_eq_some_iff.1 ho).1
      have hlt : i < ss.length := by omega
      have hls : i < listed.size := by omega
      obtain ⟨s, hs, hts⟩ := hget i o (by simpa using ho)
      have hdst := trS_dst hts
      obtain ⟨hcalm, -, hpair⟩ := drawOK_spec hok hs
      have hSi : listed.getD i false = false := by simp [Array.getD, hls] at h1 ⊢; exact h1
      have hS' : ∀ j, (listed.setIfInBounds i true).getD j false = (decide (j = i) || listed.getD j false) := by
        intro j
        by_cases hji : j = i
        · subst hji; simp [Array.getD, hls]
        · have : (listed.setIfInBounds i true).getD j false = listed.getD j false := by
            simp only [Array.getD_eq_getD_getElem?]
            rw [Array.getElem?_setIfInBounds_ne (by omega)]
          rw [this]; simp [hji]
      have hin : ∀ e ∈ trEdges o, listed.getD e false = true := by
        intro e he
        obtain ⟨e', he', rfl⟩ := List.mem_map.1 he
        obtain ⟨h5, h6⟩ := List.mem_filter.1 he'
        exact hed e' (by simpa using h5) h6
      -- those before i are in; i is before none that is in
      have hbefore : ∀ j, bit (bs.getD i 0) j = true → listed.getD j false = true ∧ j < i := by
        intro j hb
        rw [← hbs] at hb
        exact before_in hback hcl i _ j (hedge i o ho) hin hb
      have hnot : ∀ j, j < ss.length → listed.getD j false = true → bit (bs.getD j 0) i = false := by
        intro j hj hjl
        rw [← hbs]
        have hje : j < es.length := by omega
        exact not_before hback hcl (List.getElem?_eq_getElem hje) hjl hSi
      have hafter : ∀ j, j < ss.length → bit (bs.getD j 0) i = true → i < j ∧ listed.getD j false = false := by
        intro j hj hb
        constructor
        · rw [← hbs] at hb
          have hje : j < es.length := by omega
          obtain ⟨-, -, h3⟩ := befores_spec (es := es) (acc := [])
          -- i before j: i < j
          have : ∀ (j : Nat) (l : List Nat), es[j]? = some l → bit ((befores es []).getD j 0) i = true → i < j := fun j l hj hb =>
            (before_in (S := fun _ => true) hback (fun _ _ _ _ _ _ => rfl) j l i hj (fun _ _ => rfl) hb).2
          exact this j _ (List.getElem?_eq_getElem hje) hb
        · cases hjl : listed.getD j false with
          | false => rfl
          | true => rw [hnot j hj hjl] at hb; cases hb
      have htied : ∀ j, j < ss.length → tied bs i j = true → (j < i → listed.getD j false = true) ∧ (i < j → listed.getD j false = false) := by
        intro j hj ht
        simp only [tied, Bool.or_eq_true] at ht
        rcases ht with ht | ht
        · have := hbefore j ht
          exact ⟨fun _ => this.1, fun h => by omega⟩
        · have := hafter j hj ht
          exact ⟨fun h => by omega, fun _ => this.2⟩
      -- what it reads
      have hwr : ∀ t, (t ∈ s.reads ∨ s.dst = some t) → ∀ j, j < ss.length → j ≠ i → dstAt ss j = some t → (j < i → listed.getD j false = true) ∧ (i < j → listed.getD j false = false) := by
        intro t ht j hj hji hdj
        have hsj := List.getElem?_eq_getElem hj
        simp only [dstAt, hsj, Option.bind_some] at hdj
        exact htied j hj ((hpair j _ hsj (by omega)).1 t hdj ht)
      have hreads : ∀ t ∈ s.reads, get (envT ss ev vv (fun i => listed.getD i false) ss.length) t = get (ev i) t := by
        intro t ht
        rw [envT_above (i := i) (by omega) (fun j h3 h4 h5 h6 => by
          by_cases hji : j = i
          · subst hji; rw [hSi] at h5; cases h5
          · have := (hwr t (.inl ht) j h4 hji h6).2 (by omega)
            rw [this] at h5; cases h5)]
        rw [envT_below (S' := fun _ => true) (fun j h3 h4 => (hwr t (.inl ht) j (by omega) (by omega) h4).1 h3)]
        exact htextE i (by omega) t
      -- the heap, before and behind
      have hheap : ∃ σ', Pt P n0 s (ev i) (hT ss hv (fun i => listed.getD i false) ss.length) (vv i) σ' ∧ σ' = hT ss hv (fun j => (listed.setIfInBounds i true).getD j false) ss.length := by
        have hla : loudAt ss i = s.loud := by simp [loudAt, hs]
        cases hloud : s.loud with
        | true =>
          have hlw : ∀ j, j < ss.length → j ≠ i → loudAt ss j = true → (j < i → listed.getD j false = true) ∧ (i < j → listed.getD j false = false) := by
            intro j hj hji hlj
            have hsj := List.getElem?_eq_getElem hj
            simp only [loudAt, hsj, Option.map_some, Option.getD_some] at hlj
            exact htied j hj ((hpair j _ hsj (by omega)).2.1 hlj hloud)
          have e1 : hT ss hv (fun i => listed.getD i false) ss.length = hv i := by
            rw [hT_above (i := i) (by omega) (fun j h3 h4 h5 => by
              by_cases hji : j = i
              · subst hji; rw [hSi] at h5; cases h5
              · cases hlj : loudAt ss j with
                | false => rfl
                | true => have := (hlw j h4 hji hlj).2 (by omega); rw [this] at h5; cases h5)]
            rw [hT_below (S' := fun _ => true) (fun j h3 h4 => (hlw j (by omega) (by omega) h4).1 h3)]
            exact htextH i (by omega)
          have e2 : hT ss hv (fun j => (listed.setIfInBounds i true).getD j false) ss.length = hv (i + 1) := by
            rw [hT_above (i := i + 1) (by omega) (fun j h3 h4 h5 => by
              rw [hS' j] at h5
              have hji : j ≠ i := by omega
              simp only [hji, decide_false, Bool.false_or] at h5
              cases hlj : loudAt ss j with
              | false => rfl
              | true => have := (hlw j h4 hji hlj).2 (by omega); rw [this] at h5; cases h5)]
            simp only [hT, hS' i, hla, hloud]
            simp
          exact ⟨hv (i + 1), by rw [e1]; exact (hstep i s hs).2.1, e2.symm⟩
        | false =>
          have e2 : hT ss hv (fun j => (listed.setIfInBounds i true).getD j false) ss.length = hT ss hv (fun i => listed.getD i false) ss.length := by
            refine hT_below (fun j h3 h4 => ?_)
            rw [hS' j]
            have hji : j ≠ i := by rintro rfl; rw [hla, hloud] at h4; cases h4
            simp [hji]
          refine ⟨_, ?_, e2.symm⟩
          have hlw : ∀ j, j < i → loudAt ss j = true → listed.getD j false = true := by
            intro j hji hlj
            have hj : j < ss.length := by omega
            have hsj := List.getElem?_eq_getElem hj
            simp only [loudAt, hsj, Option.map_some, Option.getD_some] at hlj
            rcases (hpair j _ hsj (by omega)).2.2 hlj hloud with h | h
            · omega
            · exact (htied j hj h).1 hji
          have e0 : hT ss hv (fun i => listed.getD i false) i = hv i := by
            rw [hT_below (S' := fun _ => true) (fun j h3 h4 => hlw j h3 h4)]
            exact htextH i (by omega)
          rcases hT_last (ss := ss) (hv := hv) (S := fun i => listed.getD i false) (i := i) (n := ss.length) (by omega) with h | ⟨j, h3, h4, h5, h6, h7⟩
          · rw [h, e0]
            have hpt := (hstep i s hs).2.1
            rw [(hstep i s hs).2.2 hloud] at hpt
            exact hpt
          · rw [h7]
            have hji : j ≠ i := by rintro rfl; rw [hla, hloud] at h6; cases h6
            refine hagain i s j hs (by omega) h4 ?_
            simp only [usOf, List.contains_iff_mem, List.mem_filter, List.mem_range, Bool.and_eq_true, decide_eq_true_eq, Bool.not_eq_true']
            exact ⟨h4, ⟨by omega, h6⟩, hnot j h4 h5⟩
      obtain ⟨σ', hpt, hσ'⟩ := hheap
      obtain ⟨C, rfl, g1, g2, g3, g4⟩ := hst
      have hrun := hpt _ hreads md (fun md' env' σ'' => md' = md ∧ env' = put (envT ss ev vv (fun i => listed.getD i false) ss.length) s.dst (vv i) ∧ σ'' = σ') ⟨rfl, rfl, rfl⟩
      have hsound := abS_sound hF hI noY_ok hts g1 g2 g3 g4 hrun Q
      have hnext : ∀ a w, Lift Inv N (fun md' env' σ'' => md' = md ∧ env' = put (envT ss ev vv (fun i => listed.getD i false) ss.length) s.dst (vv i) ∧ σ'' = σ') a w →
          wpAnyIn F 0 P .any ops Q fuel (listed.setIfInBounds i true) a w := by
        rintro a w ⟨C', md', env', σ'', rfl, k1, k2, k3, k4, rfl, rfl, rfl⟩
        refine ih _ a C'.w (by simpa using hsz) ?_ ?_ ⟨C', rfl, by rw [← hσ']; exact k1, k2, k3, fun t => ?_⟩
        · have hlt' := countP_lt (p := fun j => !(listed.setIfInBounds i true).getD j true) (q := fun j => !listed.getD j true) (i := i) (l := List.range ss.length)
            (fun j hj => by
              by_cases hji : j = i
              · subst hji; simp [Array.getD, hls] at hj
              · have : (listed.setIfInBounds i true).getD j true = listed.getD j true := by
                  simp only [Array.getD_eq_getD_getElem?]
                  rw [Array.getElem?_setIfInBounds_ne (by omega)]
                rw [this] at hj; exact hj)
            (by simp [Array.getD, hls]) (by rw [h1]; rfl) (List.mem_range.2 hlt)
          omega
        · intro j l hj hl e hel
          rw [hS' j] at hj
          rw [hS' e]
          simp only [Bool.or_eq_true, decide_eq_true_eq] at hj ⊢
          rcases hj with rfl | hj
          · rw [hedge j o ho] at hl
            cases hl
            exact .inr (hin e hel)
          · exact .inr (hcl j l hj hl e hel)
        · have : get (envT ss ev vv (fun j => (listed.setIfInBounds i true).getD j false) ss.length) t = get (put (envT ss ev vv (fun i => listed.getD i false) ss.length) s.dst (vv i)) t := by
            have hda : dstAt ss i = s.dst := by simp [dstAt, hs]
            by_cases hdt : s.dst = some t
            · rw [hdt, get_put, if_pos rfl]
              rw [envT_above (i := i + 1) (by omega) (fun j h3 h4 h5 h6 => by
                rw [hS' j] at h5
                have hji : j ≠ i := by omega
                simp only [hji, decide_false, Bool.false_or] at h5
                have := (hwr t (.inr hdt) j h4 hji h6).2 (by omega)
                rw [this] at h5; cases h5)]
              simp only [envT, hS' i, hda, hdt]
              simp [get_put]
            · have e1 : get (put (envT ss ev vv (fun i => listed.getD i false) ss.length) s.dst (vv i)) t = get (envT ss ev vv (fun i => listed.getD i false) ss.length) t := by
                cases hsd : s.dst with
                | none => rfl
                | some d => rw [get_put, if_neg (by rintro rfl; exact hdt hsd)]
              rw [e1]
              refine envT_below (fun j h3 h4 => ?_)
              rw [hS' j]
              have hji : j ≠ i := by rintro rfl; rw [hda] at h4; exact hdt h4
              simp [hji]
          rw [this]
          exact k4 t
      unfold wpOpIn
      simp only [ho]
      split
      · rename_i hw
        rw [if_pos hw] at hsound
        exact Oper.wpIn_mono hnext hsound
      · rename_i hw
        rw [if_neg hw] at hsound
        exact ⟨hsound.1, hnext _ _ hsound.2⟩
  refine main ops.size _ a _ (by simp [hn]) ?_ ?_ ⟨C.world _, rfl, ?_, hI.ext hinv hR.wf hx1, hN, fun t => ?_⟩
  · have := List.countP_le_length (p := fun i => !(Array.replicate ops.size false).getD i true) (l := List.range ss.length)
    simp only [List.length_range] at this
    omega
  · intro i l hi
    exfalso
    by_cases hlt : i < ops.size <;> simp [Array.getD, hlt] at hi
  · have : hT ss hv (fun i => (Array.replicate ops.size false).getD i false) ss.length = hv 0 := hT_above (i := 0) (Nat.zero_le _) (fun j _ h3 h4 => by
      have hlt : j < ops.size := by omega
      simp [Array.getD, hlt] at h4)
    rw [this]; exact hR1
  · have : get (envT ss ev vv (fun i => (Array.replicate ops.size false).getD i false) ss.length) t = get (ev 0) t := envT_above (i := 0) (Nat.zero_le _) (fun j _ h3 h4 => by
      have hlt : j < ops.size := by omega
      simp [Array.getD, hlt] at h4)
    rw [this]; exact (he t).ext hx1 hR.wf

end
end Go.Ab
